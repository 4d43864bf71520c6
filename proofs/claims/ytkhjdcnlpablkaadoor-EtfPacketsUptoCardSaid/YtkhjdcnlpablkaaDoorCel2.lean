/- What a cell can be, the document's; how many terms stand behind it. -/
import Derived.Test.YtkhjdcnlpablkaaDoorCel
namespace Go.Proofs.YtkhjdcnlpablkaaDoor
open Go.RowKit Go.Shelf
open Go.Lib (validD)

set_option maxHeartbeats 1600000 in
set_option maxRecDepth 100000 in
theorem behind_any (k n : Int) (s : ByteArray) (w : World) :
    Calls Tryd.prog 66 #[.agg #[.int .i64 k, .int .i64 n, .string s]] w fun e w' => e = .returned (.int .i64 (behN k n)) ∧ Below w.heap.size w w' := by
  by_cases h7 : k = 7
  · subst h7
    have HF : Hid (behN 7 n = 2) := Lib.hid (by unfold behN; rfl)
    go_enter Tryd.func66, Tryd.ntmps66
    go_wp2_with fail
    go_ret
    exact ⟨by rw [HF.out]; rfl, bel_box _ _⟩
  · have q7 : (k == 7) = false := by simp; omega
    by_cases h5 : k = 5
    · subst h5
      by_cases h : 0 ≤ n ∧ n ≤ 255
      · have HF : Hid ((behN 5 n : Int) = n) := Lib.hid (by unfold behN; rw [if_neg (by omega), if_pos ⟨rfl, h.1, h.2⟩]; omega)
        have a1 : decide (0 ≤ n) = true := decide_eq_true h.1
        have a2 : decide (n ≤ 255) = true := decide_eq_true h.2
        clear h
        go_enter Tryd.func66, Tryd.ntmps66
        go_wp2_with fail
        go_ret
        exact ⟨by rw [HF.out]; rfl, bel_box _ _⟩
      · have HF : Hid (behN 5 n = 0) := Lib.hid (by unfold behN; rw [if_neg (by omega), if_neg (by omega)])
        by_cases h0 : 0 ≤ n
        · have a1 : decide (0 ≤ n) = true := decide_eq_true h0
          have a2 : decide (n ≤ 255) = false := decide_eq_false (by omega)
          clear h h0
          go_enter Tryd.func66, Tryd.ntmps66
          go_wp2_with fail
          go_ret
          exact ⟨by rw [HF.out]; rfl, bel_box _ _⟩
        · have a1 : decide (0 ≤ n) = false := decide_eq_false h0
          clear h h0
          go_enter Tryd.func66, Tryd.ntmps66
          go_wp2_with fail
          go_ret
          exact ⟨by rw [HF.out]; rfl, bel_box _ _⟩
    · have q5 : (k == 5) = false := by simp; omega
      have HF : Hid (behN k n = 0) := Lib.hid (by unfold behN; rw [if_neg h7, if_neg (by omega)])
      clear h5 h7
      go_enter Tryd.func66, Tryd.ntmps66
      go_wp2_with fail
      go_ret
      exact ⟨by rw [HF.out]; rfl, bel_box _ _⟩

set_option maxHeartbeats 1600000 in
set_option maxRecDepth 100000 in
theorem kids_any (k n : Int) (s : ByteArray) (w : World) :
    Calls Tryd.prog 37 #[.agg #[.int .i64 k, .int .i64 n, .string s]] w fun e w' => e = .returned (.int .i64 (behN k n)) ∧ Below w.heap.size w w' := by
  by_cases h7 : k = 7
  · subst h7
    have HF : Hid (behN 7 n = 2) := Lib.hid (by unfold behN; rfl)
    go_enter Tryd.func37, Tryd.ntmps37
    go_wp2_with fail
    go_ret
    exact ⟨by rw [HF.out]; rfl, bel_box _ _⟩
  · have q7 : (k == 7) = false := by simp; omega
    by_cases h5 : k = 5
    · subst h5
      by_cases h : 0 ≤ n ∧ n ≤ 255
      · have HF : Hid ((behN 5 n : Int) = n) := Lib.hid (by unfold behN; rw [if_neg (by omega), if_pos ⟨rfl, h.1, h.2⟩]; omega)
        have a1 : decide (0 ≤ n) = true := decide_eq_true h.1
        have a2 : decide (n ≤ 255) = true := decide_eq_true h.2
        clear h
        go_enter Tryd.func37, Tryd.ntmps37
        go_wp2_with fail
        go_ret
        exact ⟨by rw [HF.out]; rfl, bel_box _ _⟩
      · have HF : Hid (behN 5 n = 0) := Lib.hid (by unfold behN; rw [if_neg (by omega), if_neg (by omega)])
        by_cases h0 : 0 ≤ n
        · have a1 : decide (0 ≤ n) = true := decide_eq_true h0
          have a2 : decide (n ≤ 255) = false := decide_eq_false (by omega)
          clear h h0
          go_enter Tryd.func37, Tryd.ntmps37
          go_wp2_with fail
          go_ret
          exact ⟨by rw [HF.out]; rfl, bel_box _ _⟩
        · have a1 : decide (0 ≤ n) = false := decide_eq_false h0
          clear h h0
          go_enter Tryd.func37, Tryd.ntmps37
          go_wp2_with fail
          go_ret
          exact ⟨by rw [HF.out]; rfl, bel_box _ _⟩
    · have q5 : (k == 5) = false := by simp; omega
      have HF : Hid (behN k n = 0) := Lib.hid (by unfold behN; rw [if_neg h7, if_neg (by omega)])
      clear h5 h7
      go_enter Tryd.func37, Tryd.ntmps37
      go_wp2_with fail
      go_ret
      exact ⟨by rw [HF.out]; rfl, bel_box _ _⟩

set_option maxHeartbeats 6400000 in
set_option maxRecDepth 100000 in
theorem rcell_any (k n : Int) (s : ByteArray) (hs : s.size ≤ maxLen) (w : World) :
    Calls Tryd.prog 36 #[.agg #[.int .i64 k, .int .i64 n, .string s]] w fun e w' => e = .returned (.int .i64 (cellE k n s)) ∧ Below w.heap.size w w' := by
  have H81 : Hid (s.size ≤ 255 → ∀ k, Calls Tryd.prog 71 #[.string s] (w.alloc (.cells #[.int .i64 k, .int .i64 n, .string s] 60)) fun e w' => e = .returned (.bool (validD s.data.toList)) ∧ Below (w.heap.size + 1) (w.alloc (.cells #[.int .i64 k, .int .i64 n, .string s] 60)) w') := Lib.hid (fun h255 k => (utf8_any s (by omega) _).mono fun e w1 ⟨he, hw⟩ => ⟨he, by rw [hw]; exact Below.refl _ _⟩)
  obtain ⟨v, hv⟩ : ∃ v, validD s.data.toList = v := ⟨_, rfl⟩
  rw [hv] at H81
  have HV := Lib.hid hv
  unfold maxLen at hs
  clear hv
  by_cases hlo : k < 1
  · have HF : Hid (cellE k n s = 3) := Lib.hid (by unfold cellE; rw [if_pos (.inl hlo)])
    have q0 : decide (k < 1) = true := decide_eq_true hlo
    have q1 : (k == 1) = false := by simp; omega
    have q2 : (k == 2) = false := by simp; omega
    have q3 : (k == 3) = false := by simp; omega
    have q4 : (k == 4) = false := by simp; omega
    have q5 : (k == 5) = false := by simp; omega
    have q8 : (k == 8) = false := by simp; omega
    clear hlo
    go_enter Tryd.func36, Tryd.ntmps36
    go_wp2_with fail
    go_ret
    exact fin_cell 3 HF.out _ (bel_box _ _)
  · by_cases hhi : 8 < k
    · have HF : Hid (cellE k n s = 3) := Lib.hid (by unfold cellE; rw [if_pos (.inr hhi)])
      have q0 : decide (k < 1) = false := decide_eq_false hlo
      have q1 : (k == 1) = false := by simp; omega
      have q2 : (k == 2) = false := by simp; omega
      have q3 : (k == 3) = false := by simp; omega
      have q4 : (k == 4) = false := by simp; omega
      have q5 : (k == 5) = false := by simp; omega
      have q8 : (k == 8) = false := by simp; omega
      have q9 : decide (8 < k) = true := decide_eq_true hhi
      clear hlo hhi
      go_enter Tryd.func36, Tryd.ntmps36
      go_wp2_with fail
      go_ret
      exact fin_cell 3 HF.out _ (bel_box _ _)
    · rcases (show k = 1 ∨ k = 2 ∨ k = 3 ∨ k = 4 ∨ k = 5 ∨ k = 6 ∨ k = 7 ∨ k = 8 by omega) with rfl | rfl | rfl | rfl | rfl | rfl | rfl | rfl
      all_goals
        clear hlo hhi
        go_enter Tryd.func36, Tryd.ntmps36
        go_wp2_with fail
        all_goals
          first
          | (go_ret; first
             | exact fin_cell 3 (by unfold cellE; simp_all; try omega) _ (bel_box _ _)
             | exact fin_cell 0 (by unfold cellE; simp_all; try omega) _ (bel_box _ _)
             | exact fin_cell 1 (by unfold cellE; simp_all; try omega) _ (bel_box _ _)
             | exact fin_cell 4 (by unfold cellE; simp_all; try omega) _ (bel_box _ _)
             | exact fin_cell 20 (by unfold cellE; simp_all; try omega) _ (bel_box _ _))
          | (refine (H81.out (by omega) _).mono ?_
             rintro e w2 ⟨rfl, hb2⟩
             have hb3 := (bel_box w (.cells #[.int .i64 2, .int .i64 n, .string s] 60)).trans (hb2.mono (by omega))
             have hbx := (hb2.block w.heap.size (by omega)).trans (heap_alloc_new w (.cells #[.int .i64 2, .int .i64 n, .string s] 60))
             have c0 := blk_cell hbx 0
             have c1 := blk_cell hbx 1
             have c2 := blk_cell hbx 2
             simp at c0 c1 c2
             clear hb2 hbx
             cases v with
             | true =>
               have hvv := HV.out
               go_wp2_with fail
               go_ret
               exact fin_cell 0 (by unfold cellE; simp_all; try omega) _ hb3
             | false =>
               have hvv := HV.out
               go_wp2_with fail
               go_ret
               exact fin_cell 20 (by unfold cellE; simp_all; try omega) _ hb3)

end Go.Proofs.YtkhjdcnlpablkaaDoor
