/- The linked list's push and out. -/
import Derived.Test.YtgijaehmffojhaaDll
import Derived.Test.YtgijaehmffojhaaRows
namespace Go.Proofs.Ytgijaehmffojhaa
open Go.RowKit

set_option maxHeartbeats 1600000 in
theorem push_any (p : Nat) (ns : List (Nat × Int)) (r3 r4 r5 r6 r7 r8 : Value) (v : Int) (w : World) (h : Dl w p ns r3 r4 r5 r6 r7 r8) (hl : ns.length ≤ 1000) :
    Calls Try.prog 42 #[.pointer (some ⟨p, 0, none⟩), .int .u64 v] w fun e w' => e = .returned (.tuple #[]) ∧ Dl w' p (ns ++ [(w.heap.size, v)]) r3 r4 r5 r6 r7 r8 ∧ Fr (df p ns) w w' := by
  obtain ⟨N, hN⟩ : ∃ N, w.heap.size = N := ⟨_, rfl⟩
  have hpN : p < N := by rw [← hN]; exact blk_lt h.blk
  by_cases hns : ns = []
  · subst hns
    have hb : w.heap[p]? = some (.cells #[.pointer none, .pointer none, .int .i64 0, r3, r4, r5, r6, r7, r8] 69 (0, 0)) := h.blk
    obtain ⟨w1, hw1⟩ : ∃ w1, w.alloc (.cells #[.int .u64 v, .pointer none, .pointer none] 72) = w1 := ⟨_, rfl⟩
    have hb1 : w1.heap[p]? = some (.cells #[.pointer none, .pointer none, .int .i64 0, r3, r4, r5, r6, r7, r8] 69 (0, 0)) := by subst hw1; exact blk_alloc hb
    have hn1 : w1.heap[N]? = some (.cells #[.int .u64 v, .pointer none, .pointer none] 72 (0, 0)) := by subst hw1 hN; exact heap_alloc_new w _
    have hf1 : Fr (fun _ => False) w w1 := by subst hw1; exact (Fr.refl _ w).alloc _
    have c1 := blk_cell hb 1
    have d0 := blk_cell hb1 0
    have d1 := blk_cell hb1 1
    have d2 := blk_cell hb1 2
    have f0 := blk_free hb1 0
    have f1 := blk_free hb1 1
    have f2 := blk_free hb1 2
    simp at c1 d0 d1 d2
    go_enter Try.func42, Try.ntmps42
    go_wp2_with fail
    go_end0
    rw [hN]
    refine ⟨rfl, push_dl h (Nat.le_of_eq hN) ?_ ?_ (by simp), ?_⟩
    · rw [blk_set (blk_set (blk_set hb1 0 _) 1 _) 2]; rfl
    · rw [blk_set_other _ (by show N ≠ p; omega), blk_set_other _ (by show N ≠ p; omega), blk_set_other _ (by show N ≠ p; omega), hn1]; rfl
    · exact (((hf1.mono (fun _ h => h.elim)).setCell (p := ⟨p, 0, none⟩) (.inl (.inl rfl)) _).setCell (p := ⟨p, 1, none⟩) (.inl (.inl rfl)) _).setCell (p := ⟨p, 2, none⟩) (.inl (.inl rfl)) _
  · have hlen := List.length_pos_iff.2 hns
    obtain ⟨⟨t, y⟩, ht⟩ : ∃ x, ns[ns.length - 1]? = some x := ⟨ns[ns.length - 1]'(by omega), List.getElem?_eq_getElem _⟩
    have hpt : pos ns ns.length = some t := by have := pos_at ht; rwa [show ns.length - 1 + 1 = ns.length by omega] at this
    obtain ⟨w1, hw1⟩ : ∃ w1, w.alloc (.cells #[.int .u64 v, .pointer (some ⟨t, 0, none⟩), .pointer none] 72) = w1 := ⟨_, rfl⟩
    have hb0 := h.blk
    have ht0 := h.nodes _ _ _ ht
    rw [hpt] at hb0
    rw [show pos ns (ns.length - 1 + 2) = none from pos_over (by omega)] at ht0
    have hb1 : w1.heap[p]? = some (.cells #[ptr (pos ns 1), ptr (some t), .int .i64 ns.length, r3, r4, r5, r6, r7, r8] 69 (0, 0)) := by subst hw1; exact blk_alloc hb0
    have ht1 : w1.heap[t]? = some (.cells #[.int .u64 y, ptr (pos ns (ns.length - 1)), ptr none] 72 (0, 0)) := by subst hw1; exact blk_alloc ht0
    have hn1 : w1.heap[N]? = some (.cells #[.int .u64 v, .pointer (some ⟨t, 0, none⟩), .pointer none] 72 (0, 0)) := by subst hw1 hN; exact heap_alloc_new w _
    have hf1 : Fr (fun _ => False) w w1 := by subst hw1; exact (Fr.refl _ w).alloc _
    have htp := h.ne ht
    have htN : t < N := by rw [← hN]; exact blk_lt ht0
    have c1 := blk_cell hb0 1
    have d1 := blk_cell hb1 1
    have d2 := blk_cell hb1 2
    have f1 := blk_free hb1 1
    have f2 := blk_free hb1 2
    have g2 := blk_cell ht1 2
    have k2 := blk_free ht1 2
    simp [ptr] at c1 d1 d2 g2
    have HT := Lib.hid ht
    have HP := Lib.hid hpt
    have HB := Lib.hid hb1
    have HX := Lib.hid ht1
    have H1 := Lib.hid hn1
    clear ht hpt hb1 ht1 hn1 hb0 ht0
    go_enter Try.func42, Try.ntmps42
    go_wp2_with fail
    go_end0
    rw [hN]
    have hb1 := HB.out
    have ht1 := HX.out
    have hn1 := H1.out
    refine ⟨rfl, push_dl h (Nat.le_of_eq hN) ?_ ?_ (fun i b x hi => ?_), ?_⟩
    · rw [blk_set (blk_set (w := w1.setCell ⟨t, 2, none⟩ _) (by rw [blk_set_other _ (by show p ≠ t; omega)]; exact hb1) 1 _) 2, if_neg hns]; rfl
    · rw [blk_set_other _ (by show N ≠ p; omega), blk_set_other _ (by show N ≠ p; omega), blk_set_other _ (by show N ≠ t; omega), hn1, HP.out]; rfl
    · have hbp := h.ne hi
      rw [blk_set_other _ (by show b ≠ p; omega), blk_set_other _ (by show b ≠ p; omega)]
      by_cases e : i + 1 = ns.length
      · obtain rfl : i = ns.length - 1 := by omega
        have := HT.out
        rw [hi] at this
        simp at this
        obtain ⟨rfl, rfl⟩ := this
        rw [blk_set ht1, if_pos e]
        rfl
      · have hbt : b ≠ t := fun e' => by
          subst e'
          have := nd_at h.nd hi HT.out
          omega
        rw [blk_set_other _ (by show b ≠ t; omega), if_neg e, hf1.at (h.nodes i b x hi) (fun h => h)]
    · exact (((hf1.mono (fun _ h => h.elim)).setCell (p := ⟨t, 2, none⟩) (.inl (.inr (at_mem HT.out))) _).setCell (p := ⟨p, 1, none⟩) (.inl (.inl rfl)) _).setCell (p := ⟨p, 2, none⟩) (.inl (.inl rfl)) _
end Go.Proofs.Ytgijaehmffojhaa
