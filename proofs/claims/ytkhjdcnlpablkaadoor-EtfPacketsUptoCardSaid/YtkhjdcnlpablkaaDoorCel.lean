/- What a cell can be; how many terms stand behind it. -/
import Derived.Test.YtkhjdcnlpablkaaDoorUtfD
namespace Go.Proofs.YtkhjdcnlpablkaaDoor
open Go.RowKit Go.Shelf
open Go.Lib (validD)

structure Ce where
  kind : Int
  n : Int
  text : ByteArray
deriving DecidableEq

/-- What is wrong of a cell. -/
def cellE (k n : Int) (s : ByteArray) : Nat :=
  if k < 1 ∨ 8 < k then 3
  else if ¬ (k = 2 ∨ k = 8) ∧ ¬ s.toList = [] then 3
  else if ¬ (k = 1 ∨ k = 3 ∨ k = 4 ∨ k = 5) ∧ n ≠ 0 then 3
  else if k = 3 ∧ (n < 1 ∨ 281474976710656 < n) then 1
  else if k = 4 ∧ (n < 1 ∨ 1099511627776 < n) then 1
  else if k = 5 ∧ (n < 0 ∨ 255 < n) then 1
  else if k = 2 ∧ (255 < s.size ∨ validD s.data.toList = false) then 20
  else if k = 8 ∧ 1024 < s.size then 4
  else 0
/-- How many terms stand behind a cell. -/
def behN (k n : Int) : Nat := if k = 7 then 2 else if k = 5 ∧ 0 ≤ n ∧ n ≤ 255 then n.toNat else 0

theorem cell_close {k n : Int} {s : ByteArray} {r : Nat} (h : cellE k n s = r) {z : Int} (hz : z = (r : Int)) : Ending.returned (.int .i64 z) = Ending.returned (.int .i64 (cellE k n s : Int)) := by rw [h, hz]

theorem bel_box (w : World) (o : Obj) : Below w.heap.size w (w.alloc o) := (Below.refl _ w).alloc (Nat.le_refl _) o

theorem fin_cell {k n : Int} {s : ByteArray} {w : World} (r : Nat) (h : cellE k n s = r) (w' : World) (hb : Below w.heap.size w w') : Ending.returned (.int .i64 (r : Int)) = Ending.returned (.int .i64 (cellE k n s : Int)) ∧ Below w.heap.size w w' := ⟨by rw [h], hb⟩

set_option maxHeartbeats 6400000 in
set_option maxRecDepth 100000 in
theorem cell_any (k n : Int) (s : ByteArray) (hs : s.size ≤ maxLen) (w : World) (hT : Lib.Utf8Tabs 0 1 w) :
    Calls Tryd.prog 65 #[.agg #[.int .i64 k, .int .i64 n, .string s]] w fun e w' => e = .returned (.int .i64 (cellE k n s)) ∧ Below w.heap.size w w' := by
  have H81 : Hid (s.size ≤ 255 → ∀ k, Calls Tryd.prog 81 #[.string s] (w.alloc (.cells #[.int .i64 k, .int .i64 n, .string s] 60)) fun e w' => e = .returned (.bool (validD s.data.toList)) ∧ Below (w.heap.size + 1) (w.alloc (.cells #[.int .i64 k, .int .i64 n, .string s] 60)) w') := Lib.hid (fun h255 k => by have := spelled_any s hs (w.alloc (.cells #[.int .i64 k, .int .i64 n, .string s] 60)) (tabs_below hT (Nat.le_refl _) (bel_box w _)); simpa using this)
  obtain ⟨v, hv⟩ : ∃ v, validD s.data.toList = v := ⟨_, rfl⟩
  rw [hv] at H81
  have HV := Lib.hid hv
  unfold maxLen at hs
  clear hv hT
  by_cases hlo : k < 1
  · have HF : Hid (cellE k n s = 3) := Lib.hid (by unfold cellE; rw [if_pos (.inl hlo)])
    have q0 : decide (k < 1) = true := decide_eq_true hlo
    have q1 : (k == 1) = false := by simp; omega
    have q2 : (k == 2) = false := by simp; omega
    have q3 : (k == 3) = false := by simp; omega
    have q4 : (k == 4) = false := by simp; omega
    have q5 : (k == 5) = false := by simp; omega
    have q8 : (k == 8) = false := by simp; omega
    clear hlo
    go_enter Tryd.func65, Tryd.ntmps65
    go_wp2_with fail
    go_ret
    exact fin_cell 3 HF.out _ (bel_box _ _)
  · by_cases hhi : 8 < k
    · have HF : Hid (cellE k n s = 3) := Lib.hid (by unfold cellE; rw [if_pos (.inr hhi)])
      have q0 : decide (k < 1) = false := decide_eq_false hlo
      have q1 : (k == 1) = false := by simp; omega
      have q2 : (k == 2) = false := by simp; omega
      have q3 : (k == 3) = false := by simp; omega
      have q4 : (k == 4) = false := by simp; omega
      have q5 : (k == 5) = false := by simp; omega
      have q8 : (k == 8) = false := by simp; omega
      have q9 : decide (8 < k) = true := decide_eq_true hhi
      clear hlo hhi
      go_enter Tryd.func65, Tryd.ntmps65
      go_wp2_with fail
      go_ret
      exact fin_cell 3 HF.out _ (bel_box _ _)
    · rcases (show k = 1 ∨ k = 2 ∨ k = 3 ∨ k = 4 ∨ k = 5 ∨ k = 6 ∨ k = 7 ∨ k = 8 by omega) with rfl | rfl | rfl | rfl | rfl | rfl | rfl | rfl
      all_goals
        clear hlo hhi
        go_enter Tryd.func65, Tryd.ntmps65
        go_wp2_with fail
        all_goals
          first
          | (go_ret; first
             | exact fin_cell 3 (by unfold cellE; simp_all; try omega) _ (bel_box _ _)
             | exact fin_cell 0 (by unfold cellE; simp_all; try omega) _ (bel_box _ _)
             | exact fin_cell 1 (by unfold cellE; simp_all; try omega) _ (bel_box _ _)
             | exact fin_cell 4 (by unfold cellE; simp_all; try omega) _ (bel_box _ _)
             | exact fin_cell 20 (by unfold cellE; simp_all; try omega) _ (bel_box _ _))
          | (refine (H81.out (by omega) _).mono ?_
             rintro e w2 ⟨rfl, hb2⟩
             have hb3 := (bel_box w (.cells #[.int .i64 2, .int .i64 n, .string s] 60)).trans (hb2.mono (by omega))
             have hbx := (hb2.block w.heap.size (by omega)).trans (heap_alloc_new w (.cells #[.int .i64 2, .int .i64 n, .string s] 60))
             have c0 := blk_cell hbx 0
             have c1 := blk_cell hbx 1
             have c2 := blk_cell hbx 2
             simp at c0 c1 c2
             clear hb2 hbx
             cases v with
             | true =>
               have hvv := HV.out
               go_wp2_with fail
               go_ret
               exact fin_cell 0 (by unfold cellE; simp_all; try omega) _ hb3
             | false =>
               have hvv := HV.out
               go_wp2_with fail
               go_ret
               exact fin_cell 20 (by unfold cellE; simp_all; try omega) _ hb3)

end Go.Proofs.YtkhjdcnlpablkaaDoor
