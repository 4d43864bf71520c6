/- What must come of fixed calls. -/
import Derived.Test.YtbedgeimpobhdaaBox
namespace Go.Proofs.Ytbedgeimpobhdaa
open Go.RowKit

set_option maxHeartbeats 1600000 in
theorem known_any (w : World) : Calls Try.prog 14 #[] w fun e w' => e = .returned (.bool true) ∧ Below w.heap.size w w' := by
  obtain ⟨B, hB⟩ : ∃ B, w.heap.size = B := ⟨_, rfl⟩
  go_enter Try.func14, Try.ntmps14
  go_wp2_with fail
  refine (New_ok 2 _ (by omega) (by omega)).mono ?_
  rintro e w0 ⟨rfl, h0⟩
  have hb0 := BoxIn.new w 2
  rw [← h0, hB] at hb0
  rw [hB]
  have HB := Lib.hid hB
  clear h0 hB
  go_wp2_with fail
  refine (Put_room B 2 0 0 7 [] _ _ hb0.box (by simp) (by simp)).mono ?_
  rintro e w1 ⟨rfl, hp⟩
  obtain ⟨sl1, hb1⟩ := hb0.step hp
  clear hp hb0
  go_wp2_with fail
  refine (Put_room B 2 0 0 8 _ _ _ hb1.box (by simp) (by simp)).mono ?_
  rintro e w2 ⟨rfl, hp⟩
  obtain ⟨sl2, hb2⟩ := hb1.step hp
  clear hp hb1
  go_wp2_with fail
  refine (Put_full B 2 0 0 9 _ _ _ hb2.box (by simp)).mono ?_
  rintro e w3 ⟨rfl, hp⟩
  obtain ⟨sl3, hb3⟩ := hb2.step hp
  clear hp hb2
  go_wp2_with fail
  refine (Next_more B 2 0 0 _ _ _ hb3.box 7 (by simp) (by simp)).mono ?_
  rintro e w4 ⟨rfl, hp⟩
  obtain ⟨sl4, hb4⟩ := hb3.step hp
  clear hp hb3
  go_wp2_with fail
  refine (Len_any B 2 _ _ _ _ _ hb4.box).mono ?_
  rintro e w5 ⟨rfl, rfl⟩
  go_wp2_with fail
  go_ret
  exact ⟨rfl, by rw [HB.out]; exact hb4.below⟩
end Go.Proofs.Ytbedgeimpobhdaa
