/- From the listed variables to what the walks ask of the tables; arguments that are cells, bytes. -/
import Derived.Test.YtkhjdcnlpablkaaDoorRows
import Derived.Test.YtkhjdcnlpablkaaDoorAw
import Derived.Test.YtkhjdcnlpablkaaDoorArgs
import Derived.Lib.LaidU8T
import Derived.PinnedBridge
import Derived.MakeChecks
namespace Go.Proofs.YtkhjdcnlpablkaaDoor
open Go.RowKit Go.Lib

theorem first_eq : Rows.laid_unicode_utf8_first = Lib.firstData := by kernel_rfl
theorem accept_eq : (Rows.laid_unicode_utf8_acceptRanges : DataW Unit) = Lib.acceptData := by kernel_rfl

theorem tabs_of {w : World} {l : List (String × DataW Unit)} (h : laidMet Tryd.prog l w) (h3 : ("unicode/utf8.first", Rows.laid_unicode_utf8_first) ∈ l) (h4 : ("unicode/utf8.acceptRanges", Rows.laid_unicode_utf8_acceptRanges) ∈ l) : Lib.Utf8Tabs 0 1 w := by
  rw [first_eq] at h3
  rw [accept_eq] at h4
  exact utf8Tabs_of_readsT (ρ := Tryd.lays196_ren) (U8Types.of196 Tryd.lays196) ⟨by kernel_rfl, by kernel_rfl, by kernel_rfl, by kernel_rfl, by kernel_rfl, by kernel_rfl, by kernel_rfl⟩ (Lib.laidMet.reads h h3) (Lib.laidMet.reads h h4)

theorem wf_byte {z : Int} (h : (Lit.int .u8 z).wf = true) : 0 ≤ z ∧ z < 256 := by
  simp [Lit.wf, IntKind.min, IntKind.max, IntKind.signed, IntKind.bits] at h
  omega
theorem wf_int {z : Int} (h : (Lit.int .i64 z).wf = true) : -9223372036854775808 ≤ z ∧ z ≤ 9223372036854775807 := by
  simp [Lit.wf, IntKind.min, IntKind.max, IntKind.signed, IntKind.bits] at h
  omega
section
variable {H : Type} {enc : TypeId × Value → H} {w : World}
set_option maxRecDepth 100000 in
/-- A cell that came in. -/
theorem ce_of {m : Nat} {d : DataW H} {xs : List Value} {ps : List MemPlace} (h : DataW.trod enc Tryd.prog w 0 (fun _ => true) true m 60 xs = some (d, ps)) : ∃ c : Ce, xs = cv c ∧ c.i64 ∧ c.text.size ≤ maxLen := by
  obtain ⟨ys, k, rfl, hx, hl, hyl, hf⟩ := DataW.trod_struct Tryd.underlying60 h
  rw [show Tryd.prog.cellsOf 60 = 3 by kernel_rfl] at hl
  simp only [Prod.mk.injEq] at hx
  obtain ⟨rfl, rfl⟩ := hx
  match xs, hl with
  | [x0, x1, x2], _ =>
    have hy4 : ys.length = 3 := hyl
    match ys, hy4 with
    | [y0, y1, y2], _ =>
      have f0 : DataW.trod enc Tryd.prog w 0 (fun _ => true) true k 3 (([x0, x1, x2].drop 0).take (Tryd.prog.cellsOf 3)) = some y0 := hf 0 _ rfl
      have f1 : DataW.trod enc Tryd.prog w 0 (fun _ => true) true k 2 (([x0, x1, x2].drop 1).take (Tryd.prog.cellsOf 2)) = some y1 := hf 1 _ rfl
      have f2 : DataW.trod enc Tryd.prog w 0 (fun _ => true) true k 9 (([x0, x1, x2].drop 2).take (Tryd.prog.cellsOf 9)) = some y2 := hf 2 _ rfl
      have e3 : Tryd.prog.cellsOf 3 = 1 := by kernel_rfl
      have e2 : Tryd.prog.cellsOf 2 = 1 := by kernel_rfl
      have e9 : Tryd.prog.cellsOf 9 = 1 := by kernel_rfl
      simp only [e3, e2, e9, List.drop_succ_cons, List.drop_zero, List.take_succ_cons, List.take_zero] at f0 f1 f2
      obtain ⟨k0, h0, _, _⟩ := DataW.trod_int Tryd.underlying3 f0
      obtain ⟨k1, h1, _, hw1⟩ := DataW.trod_int Tryd.underlying2 f1
      obtain ⟨s, h2, _, hw2⟩ := DataW.trod_string Tryd.underlying9 f2
      simp only [List.cons.injEq, and_true] at h0 h1 h2
      subst h0 h1 h2
      exact ⟨⟨k0, k1, s⟩, rfl, wf_int hw1, hw2⟩
/-- Cells that came in. -/
theorem ces_of {fuel : Nat} {cs : List Value} {d : DataW H} {ps : List MemPlace} (h : DataW.trod enc Tryd.prog w 0 (fun _ => true) true fuel 24 cs = some (d, ps)) (hfit : Fits Tryd.prog 24 d) :
    ∃ (ao : Option Addr) (cap : Nat) (t : List Ce), cs = [.slice ao t.length cap] ∧ Rd w 3 (.slice ao t.length cap) t.length (cvs t) ∧ OkCes t := by
  obtain ⟨ao, n, cap, xss, hcs, hrd, hl, hl3, _, hel⟩ := rd_slice (size := 3) Tryd.underlying24 (by kernel_rfl) (by decide) h hfit
  obtain ⟨t, htl, ht⟩ := list_choose (p := fun (xs : List Value) (c : Ce) => xs = cv c ∧ c.i64 ∧ c.text.size ≤ maxLen) xss (by
    intro xs hx
    obtain ⟨m, d', ps', h1, _⟩ := hel xs hx
    exact ce_of h1)
  have hn : t.length = n := by omega
  subst hn
  have hfl : xss.flatten = cvs t := by
    unfold cvs
    rw [List.flatMap_def]
    congr 1
    apply List.ext_getElem?
    intro i
    by_cases hi : i < xss.length
    · obtain ⟨c, hc, h1, _⟩ := ht i _ (List.getElem?_eq_getElem hi)
      rw [List.getElem?_map, hc, List.getElem?_eq_getElem hi, h1]
      rfl
    · rw [List.getElem?_eq_none (by omega), List.getElem?_eq_none (by simp; omega)]
  have hmem : ∀ c ∈ t, c.i64 ∧ c.text.size ≤ maxLen := by
    intro c hc
    obtain ⟨i, hi, rfl⟩ := List.getElem_of_mem hc
    obtain ⟨c', hc', _, h2⟩ := ht i _ (List.getElem?_eq_getElem (by omega))
    rw [List.getElem?_eq_getElem hi] at hc'
    cases hc'
    exact h2
  exact ⟨ao, cap, t, hcs, by rw [← hfl]; exact hrd, ⟨fun c hc => (hmem c hc).1, fun c hc => (hmem c hc).2⟩⟩
/-- Bytes that came in. -/
theorem bytes_of {fuel : Nat} {cs : List Value} {d : DataW H} {ps : List MemPlace} (h : DataW.trod enc Tryd.prog w 0 (fun _ => true) true fuel 22 cs = some (d, ps)) (hfit : Fits Tryd.prog 22 d) :
    ∃ (ao : Option Addr) (cap : Nat) (l : List UInt8), cs = [.slice ao l.length cap] ∧ Rd w 1 (.slice ao l.length cap) l.length (byteCells l) ∧ cap * Tryd.prog.bytesOf 5 ≤ reachBytes := by
  obtain ⟨ao, n, cap, zs, hcs, hrd, hreach, hz⟩ := rd_ints Tryd.underlying22 Tryd.underlying5 (by kernel_rfl) h hfit
  have hln : zs.length = n := by have := hrd.len; simpa using this
  have hb : ∀ z ∈ zs, 0 ≤ z ∧ z < 256 := fun z hz' => wf_byte (hz z hz')
  obtain ⟨l, hl, hlz⟩ := list_choose (p := fun (z : Int) (b : UInt8) => z = (b.toNat : Int)) zs (fun z hz' => ⟨UInt8.ofNat z.toNat, by
    have := hb z hz'
    simp; omega⟩)
  have hll : l.length = n := by omega
  subst hll
  refine ⟨ao, cap, l, hcs, ?_, hreach⟩
  have : zs.map (Value.int .u8) = byteCells l := by
    unfold byteCells
    apply List.ext_getElem?
    intro i
    by_cases hi : i < zs.length
    · obtain ⟨b, hb', h1⟩ := hlz i _ (List.getElem?_eq_getElem hi)
      rw [List.getElem?_map, List.getElem?_map, List.getElem?_eq_getElem hi, hb', h1]
      rfl
    · rw [List.getElem?_eq_none (by simp; omega), List.getElem?_eq_none (by simp; omega)]
  rw [← this]
  exact hrd
end
end Go.Proofs.YtkhjdcnlpablkaaDoor
