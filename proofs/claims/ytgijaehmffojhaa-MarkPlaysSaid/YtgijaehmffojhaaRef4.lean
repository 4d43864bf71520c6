/- The document's marked mailbox: Words, Swap. -/
import Derived.Test.YtgijaehmffojhaaRef3
import Derived.Test.YtgijaehmffojhaaTakesLaw
namespace Go.Proofs.Ytgijaehmffojhaa
open Go.RowKit

set_option maxHeartbeats 1600000 in
theorem RWords_any (q : Nat) (lv mv : Value) (R : Rx) (w : World) (h : Rb w q lv mv R) (hl : R.L.length ≤ 1000) :
    Calls Try.prog 26 #[.pointer (some ⟨q, 0, none⟩)] w fun e w' => ∃ v, e = .returned v ∧ Sl w' 26 1 v R.L.length (u64s (R.L.map (·.1))) ∧ (∀ b, v.ownBlock = some b → w.heap.size ≤ b) ∧ Below w.heap.size w w' := by
  obtain ⟨i0, hinf, hz0, hz1, hz2⟩ := info_parts Try.info26
  obtain ⟨ao, cap, rfl, hcap, hmax⟩ := h.ol.shape
  unfold maxLen at hmax
  have c1 := blk_cell h.blk 1
  simp at c1
  go_enter Try.func26, Try.ntmps26
  go_wp2_with fail
  go_loopg [3, 11] R.L.length (fun g s3 s11 wr => ∃ i : Nat, i + g = R.L.length ∧ s11 = .int .i64 i ∧ Sl wr 26 1 s3 i (u64s ((R.L.take i).map (·.1))) ∧ (∀ b, s3.ownBlock = some b → w.heap.size ≤ b) ∧ Below w.heap.size w wr)
  case atStart => exact ⟨0, by omega, rfl, Sl.nil _ _ _, by simp [Value.ownBlock], Below.refl _ _⟩
  case round =>
    obtain ⟨i, hik, rfl, hs, hsb, hb⟩ := hrel
    obtain ⟨aos, caps, rfl, hcs, hms⟩ := hs.shape
    cases gk with
    | zero =>
      obtain rfl : i = R.L.length := by omega
      rw [List.take_of_length_le (Nat.le_refl _)] at hs
      go_wp2_with fail
      go_ret
      exact ⟨_, rfl, hs, hsb, hb⟩
    | succ g =>
      have h1 := h.keep (bel_fr0 hb) (fun _ _ h => h)
      obtain ⟨⟨y, m⟩, hy⟩ : ∃ y, R.L[i]? = some y := ⟨R.L[i]'(by omega), List.getElem?_eq_getElem _⟩
      obtain ⟨b, off, cap', hv', _, _, hcell⟩ := h1.ol.rd.at (by omega)
      simp at hv'
      obtain ⟨rfl, rfl⟩ := hv'
      have d0 := hcell (i * 2) (by omega)
      have d1 := hcell (i * 2 + 1) (by omega)
      rw [(prs_at _ i y m hy).1] at d0
      rw [(prs_at _ i y m hy).2, ← Nat.add_assoc] at d1
      clear hcell
      have HY := Lib.hid hy
      clear hy
      obtain ⟨N, hN⟩ : ∃ N, wr.heap.size = N := ⟨_, rfl⟩
      obtain ⟨w2, hw2⟩ : ∃ w2, wr.alloc (.cells #[.int .u64 y, .int .i64 m] 75) = w2 := ⟨_, rfl⟩
      have hn2 : w2.heap[N]? = some (.cells #[.int .u64 y, .int .i64 m] 75 (0, 0)) := by subst hw2 hN; exact heap_alloc_new wr _
      have hb2 : Below w.heap.size w w2 := by subst hw2; exact hb.alloc hb.size _
      have hs2 : Sl w2 26 1 (.slice aos i caps) i (u64s ((R.L.take i).map (·.1))) := by subst hw2; exact hs.alloc _
      have e0 := blk_cell hn2 0
      simp at e0
      go_wp2_with (at_builtin; refine wpList_append_sl rfl (.tmp 15) (.tmp 18) 22 rfl 26 i0 (.int .u64 0) 1 8 Try.underlying22 hinf hz0 hz1 hz2 rfl (by decide) (.slice aos i caps) i (u64s ((R.L.take i).map (·.1))) rfl (hs2.alloc _) ⟨w2.heap.size, 0, none⟩ 1 1 [.int .u64 y] rfl rfl (cell_one_new _ _ _) (by simp [Value.oneCell']) (by unfold maxLen; omega) (by omega) ?next)
      case next =>
        intro v4 w4 hs4 hf4 hv4
        have hb4 : Below w.heap.size w w4 := (hb2.alloc hb2.size _).trans (hf4.below (by have := hb2.size; simp; omega) (fun b hb => hsb b hb))
        have hsb4 : ∀ b, v4.ownBlock = some b → w.heap.size ≤ b := fun b hb => by
          rcases hv4 with h | h
          · exact hsb b (h ▸ hb)
          · rw [h] at hb; simp at hb; have := hb2.size; omega
        have hs5 : Sl w4 26 1 v4 (i + 1) (u64s ((R.L.take (i + 1)).map (·.1))) := by
          rw [List.take_add_one, HY.out]
          simpa [u64s] using hs4
        clear hs2 hf4 hv4 hs4 hn2 e0 hb2
        go_wp2_with fail
        go_roundg g
        case measure => omega
        case rel => exact ⟨i + 1, by omega, by go_num, hs5, hsb4, hb4⟩

/-- The messages with other words. -/
def swapL (L : List (Int × Int)) (vs : List Int) : List (Int × Int) := List.zipWith (fun m v => (v, m.2)) L vs

theorem swapL_take {L : List (Int × Int)} {vs : List Int} {i : Nat} {m : Int × Int} {v : Int} (h1 : L[i]? = some m) (h2 : vs[i]? = some v) : swapL (L.take (i + 1)) (vs.take (i + 1)) = swapL (L.take i) (vs.take i) ++ [(v, m.2)] := by
  have e : (L.take i).length = (vs.take i).length := by
    have := (List.getElem?_eq_some_iff.1 h1).1
    have := (List.getElem?_eq_some_iff.1 h2).1
    simp; omega
  unfold swapL
  rw [List.take_add_one, List.take_add_one, h1, h2]
  simp only [Option.toList_some]
  rw [List.zipWith_append e]
  rfl

theorem RSwap_no (q : Nat) (lv mv : Value) (R : Rx) (w : World) (h : Rb w q lv mv R) (a : Option Addr) (n c : Nat) (hn : n ≠ R.L.length) :
    Calls Try.prog 52 #[.pointer (some ⟨q, 0, none⟩), .slice a n c] w fun e w' => e = .returned (.int .i64 1) ∧ w' = w := by
  obtain ⟨ao, cap, rfl, hcap, hmax⟩ := h.ol.shape
  have c1 := blk_cell h.blk 1
  simp at c1
  have ht2 : ((n : Int) != (R.L.length : Int)) = true := by simp; omega
  have ht : ((n : Int) == (R.L.length : Int)) = false := by simp; omega
  go_enter Try.func52, Try.ntmps52
  go_wp2
  go_ret
  exact ⟨rfl, rfl⟩

set_option maxHeartbeats 3200000 in
set_option maxRecDepth 100000 in
theorem RSwap_yes (q : Nat) (lv mv : Value) (R : Rx) (w : World) (h : Rb w q lv mv R) (hl : R.L.length ≤ 1000) (a : Option Addr) (c : Nat) (vs : List Int) (hr : Rd w 1 (.slice a R.L.length c) R.L.length (u64s vs)) :
    Calls Try.prog 52 #[.pointer (some ⟨q, 0, none⟩), .slice a R.L.length c] w fun e w' => e = .returned (.int .i64 0) ∧ RPost q lv mv { R with L := swapL R.L vs } w w' := by
  obtain ⟨i0, hinf, hz0, hz1, hz2⟩ := info_parts Try.info75
  obtain ⟨ao, cap, rfl, hcap, hmax⟩ := h.ol.shape
  unfold maxLen at hmax
  have c1 := blk_cell h.blk 1
  simp at c1
  have hvl : vs.length = R.L.length := by have := hr.len; simpa [u64s] using this
  obtain ⟨mm, hmm⟩ : ∃ mm, R.L.length = mm := ⟨_, rfl⟩
  rw [hmm] at h c1 hr hvl hl hcap ⊢
  have HM := Lib.hid hmm
  have HV := Lib.hid hvl
  clear hmm hvl
  go_enter Try.func52, Try.ntmps52
  go_upto_block 0 with fail
  go_cut [5] (fun s5 wx => Sl wx 75 2 s5 mm (prs .u64 (swapL R.L vs)) ∧ (∀ b, s5.ownBlock = some b → w.heap.size ≤ b) ∧ Below w.heap.size w wx)
  case first =>
    go_wp2_with fail
    go_loopg [5, 21] mm (fun g s5 s21 wr => ∃ i : Nat, i + g = mm ∧ s21 = .int .i64 i ∧ Sl wr 75 2 s5 i (prs .u64 (swapL (R.L.take i) (vs.take i))) ∧ (∀ b, s5.ownBlock = some b → w.heap.size ≤ b) ∧ Below w.heap.size w wr)
    case atStart => exact ⟨0, by omega, rfl, Sl.nil _ _ _, by simp [Value.ownBlock], Below.refl _ _⟩
    case round =>
      obtain ⟨i, hik, rfl, hs, hsb, hb⟩ := hrel
      obtain ⟨aos, caps, rfl, hcs, hms⟩ := hs.shape
      cases gk with
      | zero =>
        obtain rfl : i = mm := by omega
        rw [List.take_of_length_le (by have := HM.out; omega), List.take_of_length_le (by have := HV.out; omega)] at hs
        go_wp2_with fail
        go_meet
        case rel => exact ⟨hs, hsb, hb⟩
      | succ g =>
        have h1 := h.keep (bel_fr0 hb) (fun _ _ h => h)
        obtain ⟨⟨y, m⟩, hy⟩ : ∃ y, R.L[i]? = some y := ⟨R.L[i]'(by have := HM.out; omega), List.getElem?_eq_getElem _⟩
        obtain ⟨v, hv⟩ : ∃ v, vs[i]? = some v := ⟨vs[i]'(by have := HV.out; omega), List.getElem?_eq_getElem _⟩
        obtain ⟨b, off, cap', hv', _, _, hcell⟩ := h1.ol.rd.at (by have := HM.out; omega)
        simp at hv'
        obtain ⟨rfl, hmmL, rfl⟩ := hv'
        have d0 := hcell (i * 2) (by have := HM.out; omega)
        have d1 := hcell (i * 2 + 1) (by have := HM.out; omega)
        rw [(prs_at _ i y m hy).1] at d0
        rw [(prs_at _ i y m hy).2, ← Nat.add_assoc] at d1
        clear hcell hmmL
        have hrb := hr.below (Nat.le_refl _) hb
        obtain ⟨b3, off3, cap3, hv3, _, _, hcell3⟩ := hrb.at (by omega)
        simp at hv3
        obtain ⟨rfl, rfl⟩ := hv3
        have f3 := hcell3 i (by omega)
        rw [u64s_at hv] at f3
        clear hcell3
        have HY := Lib.hid hy
        have HVI := Lib.hid hv
        clear hy hv
        obtain ⟨N, hN⟩ : ∃ N, wr.heap.size = N := ⟨_, rfl⟩
        have hN2 : w.heap.size ≤ N := by rw [← hN]; exact hb.size
        have hsN : ∀ b, (Value.slice aos i caps).ownBlock = some b → b < N := fun b hb => by rw [← hN]; exact hs.lt b hb
        obtain ⟨w2, hw2⟩ : ∃ w2, wr.alloc (.cells #[.int .u64 y, .int .i64 m] 75) = w2 := ⟨_, rfl⟩
        have hn2 : w2.heap[N]? = some (.cells #[.int .u64 y, .int .i64 m] 75 (0, 0)) := by subst hw2 hN; exact heap_alloc_new wr _
        have hb2 : Below w.heap.size w w2 := by subst hw2; exact hb.alloc hb.size _
        have hs2 : Sl w2 75 2 (.slice aos i caps) i (prs .u64 (swapL (R.L.take i) (vs.take i))) := by subst hw2; exact hs.alloc _
        have f32 : w2.cell? ⟨b3, off3 + i, none⟩ = some (.int .u64 v) := by subst hw2; rw [cell_same (Below.heap_alloc _ _ _ (cell_lt f3))]; exact f3
        go_upto_region 7 with fail
        clear hs hb h1 d0 d1 f3 hrb hw2
        have k1 : w2.drew.cell? ⟨b3, off3 + i, none⟩ = some (.int .u64 v) := f32
        have k2 : w2.drew.cell? ⟨N, 1, none⟩ = some (.int .i64 m) := by
          have := blk_cell (w := w2.drew) hn2 1
          simpa using this
        have hs3 : Sl w2.drew 75 2 (.slice aos i caps) i (prs .u64 (swapL (R.L.take i) (vs.take i))) := hs2.drewN 1
        have hb3 : Below w.heap.size w w2.drew := bel_drewN hb2 1
        have hn3 : w2.drew.heap[N]? = some (.cells #[.int .u64 y, .int .i64 m] 75 (0, 0)) := hn2
        have hb3w : b3 < w.heap.size := by
          obtain ⟨bq, oq, cq, hvq, _, _, hcq⟩ := hr.at (by omega)
          simp at hvq
          obtain ⟨⟨rfl, rfl⟩, rfl⟩ := hvq
          have := hcq i (by omega)
          rw [u64s_at HVI.out] at this
          exact cell_lt this
        refine wp_region_ord (Ord.take 0 (.take 1 (.take 2 (.take 3 (.take 4 (.take 5 (.take 6 (.take 7 (.alone 8 (.alone 9 (.take 10 .done)))))))))))
          (fun W => W.cell? ⟨b3, off3 + i, none⟩ = some (.int .u64 v) ∧ W.cell? ⟨N, 1, none⟩ = some (.int .i64 m)) (by kernel_rfl) (by kernel_rfl) (by kernel_rfl) (fun c a d v w h => by cases d <;> exact h) ⟨k1, k2⟩ ?_
        generalize w2.drew = w4 at k1 k2 hs3 hb3 hn3 ⊢
        clear hs2 hb2 hn2 f32
        refine ord_take (o := ⟨some 26, _, _, _, _, none⟩) _ rfl (by rfl) (fun W hW => by (obtain ⟨t1, t2⟩ := hW; go_simp; with_reducible rfl)) ?_
        simp only [Act.put, List.setIfInBounds_toArray, List.set_cons_zero, List.set_cons_succ]
        refine ord_take (o := ⟨some 27, _, _, _, _, none⟩) _ rfl (by rfl) (fun W hW => by (obtain ⟨t1, t2⟩ := hW; go_simp; with_reducible rfl)) ?_
        simp only [Act.put, List.setIfInBounds_toArray, List.set_cons_zero, List.set_cons_succ]
        refine ord_take (o := ⟨some 28, _, _, _, _, none⟩) _ rfl (by rfl) (fun W hW => by (obtain ⟨t1, t2⟩ := hW; go_simp; with_reducible rfl)) ?_
        simp only [Act.put, List.setIfInBounds_toArray, List.set_cons_zero, List.set_cons_succ]
        refine ord_take (o := ⟨some 29, _, _, _, _, none⟩) _ rfl (by rfl) (fun W hW => by (obtain ⟨t1, t2⟩ := hW; go_simp; with_reducible rfl)) ?_
        simp only [Act.put, List.setIfInBounds_toArray, List.set_cons_zero, List.set_cons_succ]
        refine ord_take (o := ⟨some 30, _, _, _, _, none⟩) _ rfl (by rfl) (fun W hW => by (obtain ⟨t1, t2⟩ := hW; go_simp; with_reducible rfl)) ?_
        simp only [Act.put, List.setIfInBounds_toArray, List.set_cons_zero, List.set_cons_succ]
        refine ord_take (o := ⟨some 31, _, _, _, _, none⟩) _ rfl (by rfl) (fun W hW => by (obtain ⟨t1, t2⟩ := hW; go_simp; with_reducible rfl)) ?_
        simp only [Act.put, List.setIfInBounds_toArray, List.set_cons_zero, List.set_cons_succ]
        refine ord_take (o := ⟨some 32, _, _, _, _, none⟩) _ rfl (by rfl) (fun W hW => by (obtain ⟨t1, t2⟩ := hW; go_simp; with_reducible rfl)) ?_
        simp only [Act.put, List.setIfInBounds_toArray, List.set_cons_zero, List.set_cons_succ]
        refine ord_take (o := ⟨some 33, _, _, _, _, none⟩) _ rfl (by rfl) (fun W hW => by (obtain ⟨t1, t2⟩ := hW; go_simp; with_reducible rfl)) ?_
        simp only [Act.put, List.setIfInBounds_toArray, List.set_cons_zero, List.set_cons_succ]
        refine ord_alone (o := ⟨some 34, _, _, _, _, none⟩) rfl (by rfl) (fun K hK => ?_)
        go_simp
        have k1' : (w4.alloc (.cells #[.int .u64 v, .int .i64 m] 75)).cell? ⟨b3, off3 + i, none⟩ = some (.int .u64 v) := by rw [cell_same (Below.heap_alloc _ _ _ (cell_lt k1))]; exact k1
        have k2' : (w4.alloc (.cells #[.int .u64 v, .int .i64 m] 75)).cell? ⟨N, 1, none⟩ = some (.int .i64 m) := by rw [cell_same (Below.heap_alloc _ _ _ (cell_lt k2))]; exact k2
        refine hK _ _ ⟨k1', k2'⟩ ?_
        clear hK K
        refine ord_alone (o := ⟨some 35, _, _, _, _, none⟩) rfl (by rfl) (fun K hK => ?_)
        refine wp_append_sl (.tmp 26) (.tmp 34) 39 rfl 75 i0 (.agg #[.int .u64 0, .int .i64 0]) 2 16 Try.underlying39 hinf hz0 hz1 hz2 rfl (by decide) (.slice aos i caps) i (prs .u64 (swapL (R.L.take i) (vs.take i))) rfl (hs3.alloc _) ⟨w4.heap.size, 0, none⟩ 1 1 [.int .u64 v, .int .i64 m] rfl rfl ?_ (prs_one (k := .u64) [(v, m)]) (by unfold maxLen; omega) (by omega) ?_
        · intro j u hj
          have hb := heap_alloc_new w4 (.cells #[.int .u64 v, .int .i64 m] 75)
          have hc := blk_cell hb j
          rw [Addr.add_lit, Nat.zero_add, hc]
          simpa using hj
        intro v5 w5 hs5 hf5 hv5
        have hlt4 : b3 < w4.heap.size := cell_lt k1
        have hltN : N < w4.heap.size := cell_lt k2
        have q1 : w5.cell? ⟨b3, off3 + i, none⟩ = some (.int .u64 v) := by
          rw [cell_same (hf5.block b3 (by simp; omega) (fun e => by have := hsb b3 e; omega))]; exact k1'
        have q2 : w5.cell? ⟨N, 1, none⟩ = some (.int .i64 m) := by
          rw [cell_same (hf5.block N (by simp; omega) (fun e => by have := hsN N e; omega))]; exact k2'
        have hb5 : Below w.heap.size w w5 := (hb3.alloc hb3.size _).trans (hf5.below (by have := hb3.size; simp; omega) (fun b hb => hsb b hb))
        have hsb5 : ∀ b, v5.ownBlock = some b → w.heap.size ≤ b := fun b hb => by
          rcases hv5 with h | h
          · exact hsb b (h ▸ hb)
          · rw [h] at hb; simp at hb; have := hb3.size; omega
        have hs6 : Sl w5 75 2 v5 (i + 1) (prs .u64 (swapL (R.L.take (i + 1)) (vs.take (i + 1)))) := by rw [swapL_take HY.out HVI.out, prs_app]; exact hs5
        clear hs3 hf5 hv5 hs5 k1 k2 k1' k2' hn3 hb3
        refine hK _ _ ⟨q1, q2⟩ ?_
        clear hK K
        simp only [Act.put, List.setIfInBounds_toArray, List.set_cons_zero, List.set_cons_succ]
        refine ord_take (o := ⟨some 5, _, _, _, _, none⟩) _ rfl (by rfl) (fun W hW => by (obtain ⟨t1, t2⟩ := hW; go_simp; with_reducible rfl)) ?_
        simp only [Act.put, List.setIfInBounds_toArray, List.set_cons_zero, List.set_cons_succ]
        refine ord_done ?_
        go_wp2_with fail
        go_roundg g
        case measure => omega
        case rel => exact ⟨i + 1, by omega, by go_num, hs6, hsb5, hb5⟩
  case rest =>
    obtain ⟨hs, hsb, hb⟩ := hcut
    have h1 := h.keep (bel_fr0 hb) (fun _ _ h => h)
    clear c1
    have c1 := blk_cell h1.blk 1
    have f1 := blk_free h1.blk 1
    simp at c1
    obtain ⟨ao2, cap2, rfl, _, _⟩ := hs.shape
    have hlen : (swapL R.L vs).length = mm := by unfold swapL; have := HM.out; have := HV.out; simp; omega
    have hp1 : RPost q (.slice ao mm cap) mv { R with L := swapL R.L vs } w (wc.setCell ⟨q, 1, none⟩ (.slice ao2 mm cap2)) :=
      h.put_L ((bel_fr0 hb).mono fun _ h => h.elim) (by rw [hlen]; exact hs) (.inr hsb)
    have HP := Lib.hid hp1
    clear hp1 hlen hs h
    go_wp2_with fail
    go_ret
    exact ⟨rfl, HP.out⟩
end Go.Proofs.Ytgijaehmffojhaa
