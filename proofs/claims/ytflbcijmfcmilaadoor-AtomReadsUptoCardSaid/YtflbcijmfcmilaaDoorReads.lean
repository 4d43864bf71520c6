/- AtomReads: the walk. -/
import Derived.Test.YtflbcijmfcmilaaDoorRscan
import Derived.Test.YtflbcijmfcmilaaDoorAwake
namespace Go.Proofs.YtflbcijmfcmilaaDoor
open Go.RowKit

theorem unqV_shape (s : ByteArray) : ∃ (a : ByteArray) (e n : Nat), unqV s = .tuple #[.string a, .int .i64 e, .int .i64 n] := by
  rcases unqV_cases s with ⟨e, n, _, h⟩ | ⟨a, _, _, h⟩
  · exact ⟨_, e, n, h⟩
  · exact ⟨a, 0, 0, h⟩

set_option maxHeartbeats 3200000 in
set_option maxRecDepth 100000 in
theorem atomReads_walk (s : ByteArray) (p : Int) (hs : s.size ≤ 1048576) (w : World) (hT : Lib.Utf8Tabs 0 1 w) :
    Calls Tryd.prog 4 #[.string s, .int .i64 p] w fun e w' => e = .returned (.bool true) ∧ Below w.heap.size w w' := by
  have hsm : s.size ≤ maxLen := by unfold maxLen; omega
  obtain ⟨x, y, z, hxyz⟩ : ∃ x y z, scanV s p = (x, y, z) := ⟨_, _, _, rfl⟩
  have hV : resV (scanV s p) = .tuple #[.string ⟨x.toArray⟩, .int .i64 y, .int .i64 z] := by rw [hxyz]; rfl
  obtain ⟨a, f, n, hU⟩ := unqV_shape s
  have H1 : Hid (Calls Tryd.prog 18 #[.string s, .int .i64 p] w fun e w' => e = .returned (.tuple #[.string ⟨x.toArray⟩, .int .i64 y, .int .i64 z]) ∧ Below w.heap.size w w') := Lib.hid (by
    have := scan_any s p w hsm hT (.inl (by omega))
    rwa [hV] at this)
  have H2 : Hid (∀ w, Calls Tryd.prog 19 #[.string s, .int .i64 p] w fun e w' => e = .returned (.tuple #[.string ⟨x.toArray⟩, .int .i64 y, .int .i64 z]) ∧ Below w.heap.size w w') := Lib.hid fun w => by
    have := rscan_any s p w hs
    rwa [hV] at this
  have H3 : Hid (∀ w, Lib.Utf8Tabs 0 1 w → Calls Tryd.prog 20 #[.string s] w fun e w' => e = .returned (.tuple #[.string a, .int .i64 f, .int .i64 n]) ∧ Below w.heap.size w w') := Lib.hid fun w hT => by
    have := unquote_any s w hsm hT
    rwa [hU] at this
  have H4 : Hid (∀ w, Calls Tryd.prog 21 #[.string s] w fun e w' => e = .returned (.tuple #[.string a, .int .i64 f, .int .i64 n]) ∧ Below w.heap.size w w') := Lib.hid fun w => by
    have := runquote_any s w hs
    rwa [hU] at this
  have HT := Lib.hid hT
  clear hT hV hU hxyz
  go_enter Tryd.func4, Tryd.ntmps4
  go_wp2_with fail
  refine (H1.out).mono ?_
  rintro e w1 ⟨rfl, hb1⟩
  go_wp2_with fail
  refine (H2.out _).mono ?_
  rintro e w2 ⟨rfl, hb2⟩
  have hbw2 := hb1.trans (hb2.mono hb1.size)
  clear hb2
  go_wp2_with fail
  refine (H3.out _ (tabs_below HT.out (Nat.le_refl _) hbw2)).mono ?_
  rintro e w3 ⟨rfl, hb3⟩
  have hbw3 := hbw2.trans (hb3.mono hbw2.size)
  clear hb3
  go_wp2_with fail
  refine (H4.out _).mono ?_
  rintro e w4 ⟨rfl, hb4⟩
  have hbw4 := hbw3.trans (hb4.mono hbw3.size)
  clear hb4
  go_wp2_with fail
  refine (awake_any _).mono ?_
  rintro e w6 ⟨rfl, hb6⟩
  go_wp2_with fail
  go_ret
  exact ⟨rfl, hbw4.trans (hb6.mono hbw4.size)⟩
end Go.Proofs.YtflbcijmfcmilaaDoor
