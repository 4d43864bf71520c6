/- The table of atoms: Find. -/
import Derived.Test.YtflbcijmfcmilaaDoorTmap
import Derived.Test.YtflbcijmfcmilaaDoorRight2
namespace Go.Proofs.YtflbcijmfcmilaaDoor
open Go.RowKit

/-- A table at block p: its slice sv of the atoms L, its map at block b. -/
structure Tb (w : World) (p : Nat) (sv : Value) (b : Nat) (L : List ByteArray) : Prop where
  blk : w.heap[p]? = some (.cells #[sv, .map (some b)] 75 (0, 0))
  sl : Sl w 9 1 sv L.length (strs L)
  mp : Tm w b L

/-- What Find answers. -/
def findN (L : List ByteArray) (s : ByteArray) : Nat × Nat := if rightL s.data.toList then (match placeL L s with | some i => (i + 1, 0) | none => (0, 5)) else (0, 20)

theorem Tm.lt {w : World} {b : Nat} {L : List ByteArray} (h : Tm w b L) : b < w.heap.size := by
  obtain ⟨D, h, _⟩ := h
  exact h.lt

theorem Tb.below {w w' : World} {p b : Nat} {sv : Value} {L : List ByteArray} (h : Tb w p sv b L) (hb : Below w.heap.size w w') : Tb w' p sv b L :=
  ⟨(hb.block p (blk_lt h.blk)).trans h.blk, h.sl.keep fun k hk => hb.block k (h.sl.lt k hk), h.mp.keep (hb.block b h.mp.lt)⟩

set_option maxHeartbeats 800000 in
theorem find_any (p : Nat) (sv : Value) (b : Nat) (L : List ByteArray) (s : ByteArray) (hs : s.size ≤ maxLen) (w : World) (h : Tb w p sv b L) (hT : Lib.Utf8Tabs 0 1 w) :
    Calls Tryd.prog 28 #[.pointer (some ⟨p, 0, none⟩), .string s] w fun e w' => e = .returned (.tuple #[.int .i64 (findN L s).1, .int .i64 (findN L s).2]) ∧ Below w.heap.size w w' := by
  have HRC := Lib.hid (right_any s w hs hT)
  have H := Lib.hid h
  cases hr : rightL s.data.toList with
  | false =>
    have HR : Hid (rightN s.data.toList = 20) := Lib.hid (by unfold rightN; rw [hr]; rfl)
    have HF : Hid (findN L s = (0, 20)) := Lib.hid (by unfold findN; rw [hr]; rfl)
    clear hr h hT
    go_enter Tryd.func28, Tryd.ntmps28
    go_wp2_with fail
    refine (HRC.out).mono ?_
    rintro e w1 ⟨rfl, hb1⟩
    rw [HR.out]
    go_wp2_with fail
    go_ret2
    exact ⟨by rw [HF.out]; rfl, hb1⟩
  | true =>
    have HR : Hid (rightN s.data.toList = 0) := Lib.hid (by unfold rightN; rw [hr]; rfl)
    have HF : Hid (findN L s = (match placeL L s with | some i => (i + 1, 0) | none => (0, 5))) := Lib.hid (by unfold findN; rw [hr]; rfl)
    clear hr h hT
    go_enter Tryd.func28, Tryd.ntmps28
    go_wp2_with fail
    refine (HRC.out).mono ?_
    rintro e w1 ⟨rfl, hb1⟩
    rw [HR.out]
    have h1 := H.out.below hb1
    have c1 := blk_cell h1.blk 1
    simp at c1
    obtain ⟨v, hlook, hv⟩ := h1.mp.look s hs
    cases hp : placeL L s with
    | none =>
      rw [hp] at hlook HF
      simp only [Option.isSome] at hlook
      clear h1 hv
      go_wp2_with fail
      go_ret2
      exact ⟨by rw [HF.out]; rfl, hb1⟩
    | some i =>
      obtain rfl := hv i hp
      rw [hp] at hlook HF
      simp only [Option.isSome] at hlook
      clear h1 hv
      go_wp2_with fail
      go_ret2
      exact ⟨by rw [HF.out]; rfl, hb1⟩
end Go.Proofs.YtflbcijmfcmilaaDoor
