/- The document's table: place. -/
import Derived.Test.YtflbcijmfcmilaaDoorTab
namespace Go.Proofs.YtflbcijmfcmilaaDoor
open Go.RowKit

/-- The document's table at block r: its slice sv of the atoms L. -/
structure Rt (w : World) (r : Nat) (sv : Value) (L : List ByteArray) : Prop where
  blk : w.heap[r]? = some (.cells #[sv] 48 (0, 0))
  sl : Sl w 9 1 sv L.length (strs L)

def placeV (L : List ByteArray) (s : ByteArray) : Int := match placeL L s with
  | some i => i
  | none => -1

theorem place_here {L : List ByteArray} {s : ByteArray} {k : Nat} (h : ∀ j, j < k → L[j]? ≠ some s) (hk : L[k]? = some s) : placeL L s = some k := by
  unfold placeL
  rw [List.findIdx?_eq_some_iff_getElem]
  obtain ⟨hlt, hks⟩ := List.getElem?_eq_some_iff.1 hk
  refine ⟨hlt, by simpa using hks, fun j hj => ?_⟩
  have := h j hj
  rw [List.getElem?_eq_getElem (by omega)] at this
  simpa using this

theorem place_none {L : List ByteArray} {s : ByteArray} (h : ∀ j, j < L.length → L[j]? ≠ some s) : placeL L s = none := by
  unfold placeL
  rw [List.findIdx?_eq_none_iff]
  intro x hx
  obtain ⟨j, hj, rfl⟩ := List.getElem_of_mem hx
  have := h j hj
  rw [List.getElem?_eq_getElem hj] at this
  simpa using this

set_option maxHeartbeats 800000 in
theorem place_any (r : Nat) (sv : Value) (L : List ByteArray) (hL : L.length ≤ 1000000) (s : ByteArray) (w : World) (h : Rt w r sv L) :
    Calls Tryd.prog 53 #[.pointer (some ⟨r, 0, none⟩), .string s] w fun e w' => e = .returned (.int .i64 (placeV L s)) ∧ w' = w := by
  have c0 := blk_cell h.blk 0
  simp at c0
  have hs := h.sl
  obtain ⟨ao, cap, rfl, hcap, hmax⟩ := hs.shape
  clear h
  go_enter Tryd.func53, Tryd.ntmps53
  go_wp2_with fail
  go_loopg [5, 6, 12] L.length (fun g _ _ s12 wr => ∃ k : Nat, k + g = L.length ∧ s12 = .int .i64 k ∧ wr = w ∧ Hid (∀ j, j < k → L[j]? ≠ some s))
  case atStart => exact ⟨0, by omega, rfl, rfl, Lib.hid (by omega)⟩
  case round =>
    clear c0
    obtain ⟨k, hk, rfl, rfl, hI⟩ := hrel
    by_cases hkl : k < L.length
    · obtain ⟨g, off, cap', cur, hv, _, _, hg, _, _⟩ := hs.blk (by omega)
      simp at hv
      obtain ⟨rfl, rfl⟩ := hv
      obtain ⟨x, hx⟩ : ∃ x, L[k]? = some x := ⟨L[k], List.getElem?_eq_getElem _⟩
      have hck := hs.cell k (by omega)
      rw [strs_at hx] at hck
      have HX := Lib.hid hx
      clear hg hx
      by_cases hxs : x = s
      · subst hxs
        have HF : Hid (placeV L x = k) := Lib.hid (by unfold placeV; rw [place_here hI.out HX.out])
        clear hI
        go_wp2_with fail
        go_ret
        exact ⟨by rw [HF.out]; rfl, rfl⟩
      · have hxz : (x.toList == s.toList) = false := (Lib.bytes_beq_false_iff x s).2 hxs
        have HN : Hid (∀ j, j < k + 1 → L[j]? ≠ some s) := Lib.hid (fun j hj => by
          rcases Nat.lt_or_ge j k with h1 | h1
          · exact hI.out j h1
          · obtain rfl : j = k := by omega
            rw [HX.out]
            intro e
            exact hxs (Option.some.inj e))
        clear hI
        go_wp2_with fail
        go_roundg (L.length - (k + 1))
        case measure => omega
        case rel => exact ⟨k + 1, by omega, rfl, rfl, HN⟩
    · obtain rfl : k = L.length := by omega
      have HF : Hid (placeV L s = -1) := Lib.hid (by unfold placeV; rw [place_none hI.out])
      clear hI
      go_wp2_with fail
      go_ret
      exact ⟨by rw [HF.out]; rfl, rfl⟩
end Go.Proofs.YtflbcijmfcmilaaDoor
