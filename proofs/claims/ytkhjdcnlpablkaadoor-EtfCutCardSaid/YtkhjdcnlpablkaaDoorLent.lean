/- lent: bytes with one behind them. -/
import Derived.Test.YtkhjdcnlpablkaaDoorSam2
import Derived.Test.YtkhjdcnlpablkaaDoorStk
namespace Go.Proofs.YtkhjdcnlpablkaaDoor
open Go.RowKit
open Go.Lib (byteCells)

/-- Bytes l, of a block from B on, and a byte x behind them. -/
def LentB (B : Nat) (w : World) (v : Value) (l : List UInt8) (x : UInt8) : Prop := ∃ g off cap, v = .slice (some ⟨g, off, none⟩) l.length cap ∧ l.length + 1 ≤ cap ∧ cap ≤ maxLen ∧ B ≤ g ∧ Sl w 5 1 (.slice (some ⟨g, off, none⟩) (l.length + 1) cap) (l.length + 1) (byteCells (l ++ [x]))
theorem LentB.below {B : Nat} {w w' : World} {v : Value} {l : List UInt8} {x : UInt8} (h : LentB B w v l x) (hb : Below w.heap.size w w') : LentB B w' v l x := by
  obtain ⟨g, off, cap, h1, h2, h3, h4, h5⟩ := h
  exact ⟨g, off, cap, h1, h2, h3, h4, h5.keep fun k hk => hb.block k (h5.lt k hk)⟩
theorem LentB.bs {B : Nat} {w : World} {v : Value} {l : List UInt8} {x : UInt8} (h : LentB B w v l x) : Bs B w v l := by
  obtain ⟨g, off, cap, rfl, h2, h3, h4, h5⟩ := h
  have := h5.take (m := l.length) (by omega)
  rw [Lib.byteCells_append, List.take_left' (by rw [Lib.byteCells_length]; omega)] at this
  exact ⟨this, fun k hk => by simp [Value.ownBlock] at hk; omega⟩

set_option maxHeartbeats 1600000 in
set_option maxRecDepth 100000 in
theorem lent_any (l : List UInt8) (v : Value) (w : World) (hr : Rd w 1 v l.length (byteCells l)) (hl : l.length ≤ 140737488355327) :
    Calls Tryd.prog 9 #[v] w fun e w' => ∃ v', e = .returned v' ∧ LentB w.heap.size w' v' l 77 ∧ Below w.heap.size w w' := by
  obtain ⟨i0, hinf, hz0, hz1, hz2⟩ := info_parts Tryd.info5
  obtain ⟨ao, cap, rfl, _, _⟩ := hr.shape
  have HR := Lib.hid hr
  clear hr
  go_enter Tryd.func9, Tryd.ntmps9
  go_wp2_with (at_builtin; refine wpList_bytes_rd (.tmp 4) (.tmp 5) l rfl rfl rfl rfl (Bs.nil w.heap.size _) HR.out (Nat.le_refl _) (by simp; omega) ?next)
  case next =>
    intro v1 w1 h1
    obtain ⟨ao1, cap1, rfl, hc1, hm1⟩ := h1.bs.shape
    have H1 := Lib.hid h1
    have hz := h1.bel.size
    clear h1
    go_wp2_with (at_builtin; refine wpList_append_sl rfl (.tmp 7) (.tmp 8) 22 rfl 5 i0 (.int .u8 0) 1 1 Tryd.underlying22 hinf hz0 hz1 hz2 rfl (by decide) _ l.length (byteCells l) rfl (H1.out.bs.sl.alloc _) ⟨w1.heap.size, 0, none⟩ 1 1 (byteCells [77]) rfl rfl (cells_new w1 (byteCells [77]) 5) (fun u hu => Lib.byteCells_one _ u hu) (by unfold maxLen; omega) (by omega) ?next2)
    case next2 =>
      intro v2 w2 h2 hf2 hv2
      obtain ⟨g, off, cap2, cur, rfl, hc2, hm2, _⟩ := h2.blk (by omega)
      have hF : Fr (fun q => Value.ownBlock (.slice ao1 l.length cap1) = some q) w1 w2 := ((Fr.refl _ w1).alloc _).trans hf2
      have hn : w.heap.size ≤ g := by
        rcases hv2 with e | e
        · exact H1.out.bs.own g (e ▸ rfl)
        · simp [Value.ownBlock] at e; omega
      have HB := Lib.hid (H1.out.bel.trans (hF.below hz H1.out.bs.own))
      have H2 : Hid (Sl w2 5 1 (.slice (some ⟨g, off, none⟩) (l.length + 1) cap2) (l.length + 1) (byteCells (l ++ [77]))) := Lib.hid (by rw [Lib.byteCells_append]; exact h2)
      have hm3 := hm2
      unfold maxLen at hm3
      clear hF h2 hf2 hv2 H1
      go_wp2_with fail
      go_ret
      exact ⟨_, rfl, ⟨g, off, cap2, rfl, hc2, hm2, hn, H2.out⟩, HB.out⟩
end Go.Proofs.YtkhjdcnlpablkaaDoor
