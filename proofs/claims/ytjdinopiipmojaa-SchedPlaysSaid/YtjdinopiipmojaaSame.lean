/- same(a, b); what SchedAll's loops need. -/
import Derived.Test.YtjdinopiipmojaaGather
import Derived.Test.YtjdinopiipmojaaRefuse
import Derived.Test.YtjdinopiipmojaaArgs
import Derived.Deep.CutBlock
import Derived.Deep.DeepCutAuto
namespace Go.Proofs.Ytjdinopiipmojaa
open Go.RowKit

set_option maxHeartbeats 800000 in
theorem Same_yes (v1 v2 : Value) (n : Nat) (l : List Int) (w : World) (h1 : Rd w 1 v1 n (i64s l)) (h2 : Rd w 1 v2 n (i64s l)) :
    Calls Try.prog 16 #[v1, v2] w fun e w' => e = .returned (.bool true) ∧ ∃ q, w' = w.drewN q := by
  obtain ⟨ao1, cap1, rfl, hc1, hm1⟩ := h1.shape
  obtain ⟨ao2, cap2, rfl, hc2, hm2⟩ := h2.shape
  have hl : l.length = n := by have := h1.len; simpa [i64s] using this
  have HL := Lib.hid hl
  clear hl
  unfold maxLen at hm1 hm2
  go_enter Try.func16, Try.ntmps16
  go_wp2
  go_loopw [5] (fun s5 wr => ∃ k : Nat, k ≤ n ∧ s5 = .int .i64 k ∧ ∃ q, wr = w.drewN q) (fun s5 _ => n - (intOf s5).toNat)
  case atStart => exact ⟨0, by omega, rfl, 0, rfl⟩
  case round =>
    obtain ⟨k, hk, rfl, q, rfl⟩ := hrel
    by_cases hlt : k < n
    · obtain ⟨g1, o1, c1, hv1, _, _, hcell1⟩ := h1.at (by omega)
      obtain ⟨g2, o2, c2, hv2, _, _, hcell2⟩ := h2.at (by omega)
      simp at hv1 hv2
      obtain ⟨rfl, rfl⟩ := hv1
      obtain ⟨rfl, rfl⟩ := hv2
      obtain ⟨x, hx⟩ : ∃ x, l[k]? = some x := ⟨l[k]'(by have := HL.out; omega), List.getElem?_eq_getElem _⟩
      have e1 := hcell1 k (by omega)
      have e2 := hcell2 k (by omega)
      rw [i64s_at hx] at e1 e2
      clear hcell1 hcell2 hx
      go_wp2_with fail
      go_quiet (fail)
      go_wp2
      go_roundw
      case rel => exact ⟨k + 1, by omega, by go_num, _, rfl⟩
      case measure => simp [intOf]; omega
    · obtain rfl : k = n := by omega
      go_wp2
      go_ret
      exact ⟨rfl, _, rfl⟩

theorem addSays_sum {L : Int → List Int} {pid pr : Int} (h : sumL L 4 ≤ 64) : sumL (addSays L pid pr).2 4 ≤ 64 := by
  unfold addSays
  split
  · exact h
  split
  · exact h
  split
  · exact h
  · rename_i h1 _ h3
    have : sumL (setL L pr (L pr ++ [pid])) 4 + (L pr).length = sumL L 4 + (L pr ++ [pid]).length := by
      have : pr = 1 ∨ pr = 2 ∨ pr = 3 ∨ pr = 4 := by omega
      rcases this with rfl | rfl | rfl | rfl <;> simp [sumL, setL] <;> omega
    simp at this ⊢
    omega

theorem sum_next {L : Int → List Int} {c : Int} {x : Int} {r : List Int} (hk : 1 ≤ qturn L c) (hx : L (qturn L c) = x :: r) : sumL L 4 = sumL (setL L (qturn L c) r) 4 + 1 := by
  have hr := qturn_range L c
  have hs : sumL (setL L (qturn L c) r) 4 + (L (qturn L c)).length = sumL L 4 + r.length := by
    have : qturn L c = 1 ∨ qturn L c = 2 ∨ qturn L c = 3 ∨ qturn L c = 4 := by omega
    rcases this with e | e | e | e <;> rw [e] <;> simp [sumL, setL] <;> omega
  rw [hx] at hs
  simp only [List.length_cons] at hs
  omega

/-- Next, whatever it answers. -/
theorem Next_any {B : Nat} {w0 w : World} {p bm : Nat} {vs : Int → Value} {c : Int} {L : Int → List Int} (hq : QIn B w0 w p bm vs c L) (c0 : 0 ≤ c) (c8 : c ≤ 8) (hs : sumL L 4 ≤ 64) :
    Calls Try.prog 10 #[.pointer (some ⟨p, 0, none⟩)] w fun e w' => ∃ x y, e = .returned (.tuple #[.int .i64 x, .int .i64 y]) ∧ ∃ vs c L, QIn B w0 w' p bm vs c L ∧ 0 ≤ c ∧ c ≤ 8 ∧ sumL L 4 ≤ 64 := by
  by_cases h0 : qturn L c = 0
  · refine (Next_none _ _ _ _ _ _ hq.q h0).mono ?_
    rintro e w1 ⟨rfl, hp⟩
    obtain ⟨vs', hq'⟩ := hq.step hp
    exact ⟨_, _, rfl, _, _, _, hq', c0, c8, hs⟩
  · have h1 := qturn_range L c
    obtain ⟨x, r, hx⟩ := turn_head (k := qturn L c) rfl (by omega)
    have hn := sum_next (by omega) hx
    have hc := qcount_range (k := qturn L c) c0 c8
    refine (Next_some _ _ _ _ _ _ hq.q _ rfl (by omega) x r hx c0 c8).mono ?_
    rintro e w1 ⟨rfl, hp⟩
    obtain ⟨vs', hq'⟩ := hq.step hp
    exact ⟨_, _, rfl, _, _, _, hq', hc.1, hc.2, by omega⟩
end Go.Proofs.Ytjdinopiipmojaa
