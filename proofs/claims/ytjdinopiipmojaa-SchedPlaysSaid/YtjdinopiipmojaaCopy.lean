/- The queue's Copy. -/
import Derived.Test.YtjdinopiipmojaaDrop
import Derived.Test.YtjdinopiipmojaaKnown
namespace Go.Proofs.Ytjdinopiipmojaa
open Go.RowKit

theorem Qb.congr {w : World} {p bm : Nat} {vs : Int → Value} {c : Int} {L L' : Int → List Int} (h : Qb w p bm vs c L) (e : ∀ j, 1 ≤ j → j ≤ 4 → L j = L' j) : Qb w p bm vs c L' :=
  ⟨h.blk, h.mp, fun k k1 k4 => by rw [← e k k1 k4]; exact h.own k k1 k4, h.nem, h.dis⟩

theorem Copy_nil (w : World) : Calls Try.prog 15 #[.pointer none] w fun e w' => e = .returned (.pointer none) ∧ w' = w := by
  go_enter Try.func15, Try.ntmps15
  go_wp2
  go_ret
  exact ⟨rfl, rfl⟩

set_option maxHeartbeats 1600000 in
theorem Copy_any (p bm : Nat) (vs : Int → Value) (c : Int) (L : Int → List Int) (w : World) (hq : Qb w p bm vs c L) (hlen : sumL L 4 ≤ 1000) :
    Calls Try.prog 15 #[.pointer (some ⟨p, 0, none⟩)] w fun e w' => e = .returned (.pointer (some ⟨w.heap.size + 1, 0, none⟩)) ∧ ∃ vs', QIn w.heap.size w w' (w.heap.size + 1) w.heap.size vs' c L := by
  have hmm := @run_makeMap Try.prog
  obtain ⟨B, hB⟩ : ∃ B, w.heap.size = B := ⟨_, rfl⟩
  have c1 := blk_cell (blk_alloc (o' := .map #[] 0) hq.blk) 1
  simp at c1
  have h0 : QIn w.heap.size w ((w.alloc (.map #[] 0)).alloc (.cells #[.map (some w.heap.size), .int .i64 c] 56)) (w.heap.size + 1) w.heap.size (fun _ => .slice none 0 0) c (fun _ => []) := by
    have hlt := heap_alloc_new (w.alloc (.map #[] 0)) (.cells #[.map (some w.heap.size), .int .i64 c] 56)
    refine ⟨⟨by simpa using hlt, (Mp.made w).keep ?_, fun k _ _ => Sl.nil _ _ _, fun k _ _ => by simp [Value.ownBlock], fun j k _ _ _ _ _ b hb => by simp [Value.ownBlock] at hb⟩, fun k hk => ?_, ((Below.refl _ _).alloc (Nat.le_refl _) _).alloc (by simp) _, by simp; omega⟩
    · have hne : w.heap.size < (w.alloc (.map #[] 0)).heap.size := by simp
      rw [Below.heap_alloc _ _ _ hne]
    · rcases hk with e | e | ⟨j, _, _, hj⟩
      · omega
      · omega
      · simp [Value.ownBlock] at hj
  rw [hB] at h0 ⊢
  have hpB : ∀ k, bf p bm vs k → k < B := fun k hk => by have := hq.lt k hk; omega
  have HL : Hid (∀ k : Int, 1 ≤ k → k ≤ 4 → (L k).length ≤ 1000) := fun k k1 k4 => by
    have : k = 1 ∨ k = 2 ∨ k = 3 ∨ k = 4 := by omega
    simp [sumL] at hlen
    rcases this with rfl | rfl | rfl | rfl <;> omega
  go_enter Try.func15, Try.ntmps15
  go_wp2_with fail
  go_loopw [4] (fun s4 wr => ∃ k : Nat, k ≤ 4 ∧ s4 = .int .i64 ((k : Int) + 1) ∧ ∃ vs', QIn B w wr (B + 1) B vs' c (fun j => if j ≤ k then L j else [])) (fun s4 _ => 5 - (intOf s4).toNat)
  case atStart => exact ⟨0, by omega, rfl, _, ⟨h0.q.congr fun j j1 j4 => by rw [if_neg (by omega)], h0.lies, h0.below, h0.size⟩⟩
  case round =>
    clear h0 c1
    obtain ⟨k, hk, rfl, vs', hq1⟩ := hrel
    by_cases hlt : k < 4
    · have hqo : Qb wr p bm vs c L := hq.keep (bel_fr0 (hB ▸ hq1.below)) (fun _ _ h => h)
      have c0 := blk_cell hqo.blk 0
      have d0 := blk_cell hq1.q.blk 0
      simp at c0 d0
      go_upto_region 7 with fail
      refine wp_region_ord (Ord.take 0 (.take 1 (.take 2 (.take 3 (.take 4 (.take 5 (.take 6 (.take 7 (.take 8 (.take 9 (.alone 10 (.alone 11 (.alone 12 .done)))))))))))))
        (fun W => W.cell? ⟨p, 0, none⟩ = some (.map (some bm)) ∧ W.cell? ⟨B + 1, 0, none⟩ = some (.map (some B))) (by kernel_rfl) (by kernel_rfl) (by kernel_rfl) (fun c a d v w h => by cases d <;> exact h) ⟨c0, d0⟩ ?_
      refine ord_take (o := ⟨some 18, _, _, _, _, none⟩) _ rfl (by rfl) (fun W hW => by (obtain ⟨e1, e2⟩ := hW; go_simp; with_reducible rfl)) ?_
      simp only [Act.put, List.setIfInBounds_toArray, List.set_cons_zero, List.set_cons_succ]
      refine ord_take (o := ⟨some 19, _, _, _, _, none⟩) _ rfl (by rfl) (fun W hW => by (obtain ⟨e1, e2⟩ := hW; go_simp; with_reducible rfl)) ?_
      simp only [Act.put, List.setIfInBounds_toArray, List.set_cons_zero, List.set_cons_succ]
      refine ord_take (o := ⟨some 20, _, _, _, _, none⟩) _ rfl (by rfl) (fun W hW => by (obtain ⟨e1, e2⟩ := hW; go_simp; with_reducible rfl)) ?_
      simp only [Act.put, List.setIfInBounds_toArray, List.set_cons_zero, List.set_cons_succ]
      refine ord_take (o := ⟨some 21, _, _, _, _, none⟩) _ rfl (by rfl) (fun W hW => by (obtain ⟨e1, e2⟩ := hW; go_simp; with_reducible rfl)) ?_
      simp only [Act.put, List.setIfInBounds_toArray, List.set_cons_zero, List.set_cons_succ]
      refine ord_take (o := ⟨some 22, _, _, _, _, none⟩) _ rfl (by rfl) (fun W hW => by (obtain ⟨e1, e2⟩ := hW; go_simp; with_reducible rfl)) ?_
      simp only [Act.put, List.setIfInBounds_toArray, List.set_cons_zero, List.set_cons_succ]
      refine ord_take (o := ⟨some 23, _, _, _, _, none⟩) _ rfl (by rfl) (fun W hW => by (obtain ⟨e1, e2⟩ := hW; go_simp; with_reducible rfl)) ?_
      simp only [Act.put, List.setIfInBounds_toArray, List.set_cons_zero, List.set_cons_succ]
      refine ord_take (o := ⟨some 24, _, _, _, _, none⟩) _ rfl (by rfl) (fun W hW => by (obtain ⟨e1, e2⟩ := hW; go_simp; with_reducible rfl)) ?_
      simp only [Act.put, List.setIfInBounds_toArray, List.set_cons_zero, List.set_cons_succ]
      refine ord_take (o := ⟨some 25, _, _, _, _, none⟩) _ rfl (by rfl) (fun W hW => by (obtain ⟨e1, e2⟩ := hW; go_simp; with_reducible rfl)) ?_
      simp only [Act.put, List.setIfInBounds_toArray, List.set_cons_zero, List.set_cons_succ]
      refine ord_take (o := ⟨some 26, _, _, _, _, none⟩) _ rfl (by rfl) (fun W hW => by (obtain ⟨e1, e2⟩ := hW; go_simp; with_reducible rfl)) ?_
      simp only [Act.put, List.setIfInBounds_toArray, List.set_cons_zero, List.set_cons_succ]
      refine ord_take (o := ⟨some 27, _, _, _, _, none⟩) _ rfl (by rfl) (fun W hW => by (obtain ⟨e1, e2⟩ := hW; go_simp; with_reducible rfl)) ?_
      simp only [Act.put, List.setIfInBounds_toArray, List.set_cons_zero, List.set_cons_succ]
      have hqo2 : Qb wr.drew p bm vs c L := hqo.drewN 1
      have hq2 := hq1.keep ((Fr.refl (fun _ => False) wr).drewN 1) (fun _ _ h => h) (fun _ h => h.elim)
      refine ord_alone (o := ⟨some 28, _, _, _, _, none⟩) rfl (by rfl) (fun K hK => ?_)
      refine wp_look (.tmp 26) (.tmp 27) rfl rfl ((k : Int) + 1) rfl (by omega) (by omega) hqo2.mp ?_
      simp only [Act.put, List.setIfInBounds_toArray, List.set_cons_zero, List.set_cons_succ]
      refine hK _ _ ⟨c0, d0⟩ ?_
      clear hK K
      refine ord_alone (o := ⟨some 29, _, _, _, _, none⟩) rfl (by rfl) (fun K hK => ?_)
      go_simp
      refine (Clone_any (vs ((k : Int) + 1)) (L ((k : Int) + 1)).length (L ((k : Int) + 1)) _ (hqo2.own _ (by omega) (by omega)).rd (HL.out _ (by omega) (by omega))).mono ?_
      rintro e w2 ⟨v2, rfl, hs2, hf2, hv2⟩
      have hqo3 : Qb w2 p bm vs c L := hqo2.keep hf2 (fun _ _ h => h)
      have hq3 := hq2.keep hf2 (fun _ _ h => h) (fun _ h => h.elim)
      have c2 := blk_cell hqo3.blk 0
      have d2 := blk_cell hq3.q.blk 0
      simp at c2 d2
      refine hK _ _ ⟨c2, d2⟩ ?_
      clear hK K
      refine ord_alone (o := ⟨none, _, _, _, _, none⟩) rfl (by rfl) (fun K hK => ?_)
      refine wp_store (.tmp 21) (.tmp 22) (.tmp 29) rfl rfl ((k : Int) + 1) rfl v2 rfl (by omega) (by omega) hq3.q.mp ?_
      intro w4 hmp4 hg4
      have hf4 : Fr (fun b => b = B) w2 w4 := (Fr.refl _ _).grown hg4 (fun b hb => by cases hb; exact .inl rfl)
      have hpost := hq2.q.put (by omega) (by omega) (hf2.mono fun _ h => h.elim) (l := L ((k : Int) + 1)) hs2 (.inr hv2) hmp4 hf4
      have hp4 := hf4.at hq3.q.blk hq3.q.ne
      have hqo4 : Qb w4 p bm vs c L := hqo3.keep hf4 (fun b hb e => by have := hpB b hb; omega)
      have c4 := blk_cell hqo4.blk 0
      have d4 := blk_cell hp4 0
      simp at c4 d4
      simp only [Act.put]
      refine hK _ _ ⟨c4, d4⟩ ?_
      obtain ⟨vs4, hq4⟩ := hq2.step hpost
      have HQ4 := Lib.hid hq4
      clear hK K hpost hq3 hqo3 hqo4 hs2 hf2 hf4 hmp4 hg4 hq4 hq2 hqo2 hq1 hqo
      refine ord_done ?_
      go_wp2_with fail
      go_roundw
      case rel =>
        refine ⟨k + 1, by omega, by go_num, vs4, ⟨HQ4.out.q.congr fun j j1 j4 => ?_, HQ4.out.lies, HQ4.out.below, HQ4.out.size⟩⟩
        unfold setL
        show (if j = (k : Int) + 1 then L ((k : Int) + 1) else if j ≤ (k : Int) then L j else []) = if j ≤ ((k + 1 : Nat) : Int) then L j else []
        by_cases e : j = (k : Int) + 1
        · subst e; rw [if_pos rfl, if_pos (by omega)]
        · rw [if_neg e]
          by_cases e2 : j ≤ k
          · rw [if_pos e2, if_pos (by omega)]
          · rw [if_neg e2, if_neg (by omega)]
      case measure => simp [intOf]; omega
    · obtain rfl : k = 4 := by omega
      go_wp2_with fail
      go_ret
      exact ⟨rfl, vs', ⟨hq1.q.congr fun j j1 j4 => by rw [if_pos (by omega)], hq1.lies, hq1.below, hq1.size⟩⟩
end Go.Proofs.Ytjdinopiipmojaa
