/- The queue's turn, Next. -/
import Derived.Test.YtjdinopiipmojaaAdd
namespace Go.Proofs.Ytjdinopiipmojaa
open Go.RowKit

/-- whose turn it is -/
def qturn (L : Int → List Int) (c : Int) : Int :=
  if L 4 ≠ [] then 4 else if L 3 ≠ [] then 3 else if L 2 ≠ [] ∧ (L 1 = [] ∨ c < 8) then 2 else if L 1 ≠ [] then 1 else 0

theorem some_any (p bm : Nat) (vs : Int → Value) (c : Int) (L : Int → List Int) (k : Int) (g : Nat) (w : World) (hq : Qb w p bm vs c L) (hg : w.cell? ⟨g, 0, none⟩ = some (.pointer (some ⟨p, 0, none⟩))) (h1 : 1 ≤ k) (h4 : k ≤ 4) :
    Calls Try.prog 31 #[.int .i64 k, .pointer (some ⟨g, 0, none⟩)] w fun e w' => e = .returned (.bool (decide (L k ≠ []))) ∧ w' = w := by
  have c0 := blk_cell hq.blk 0
  simp at c0
  have hlk := hq.mp.look k h1 h4
  obtain ⟨ao, cap, hvs, hcap, hmax⟩ := (hq.own k h1 h4).shape
  unfold maxLen at hmax
  rw [hvs] at hlk
  go_enter Try.func31, Try.ntmps31
  go_wp2_with fail
  go_ret
  refine ⟨?_, rfl⟩
  cases hl : L k <;> simp

theorem some_is (p bm : Nat) (vs : Int → Value) (c : Int) (L : Int → List Int) (k : Int) (g : Nat) (w : World) (hq : Qb w p bm vs c L) (hg : w.cell? ⟨g, 0, none⟩ = some (.pointer (some ⟨p, 0, none⟩))) (h1 : 1 ≤ k) (h4 : k ≤ 4) (b : Bool) (hb : decide (L k ≠ []) = b) :
    Calls Try.prog 31 #[.int .i64 k, .pointer (some ⟨g, 0, none⟩)] w fun e w' => e = .returned (.bool b) ∧ w' = w := by
  rw [← hb]; exact some_any p bm vs c L k g w hq hg h1 h4

theorem turn_any (p bm : Nat) (vs : Int → Value) (c : Int) (L : Int → List Int) (w : World) (hq : Qb w p bm vs c L) :
    Calls Try.prog 23 #[.pointer (some ⟨p, 0, none⟩)] w fun e w' => e = .returned (.int .i64 (qturn L c)) ∧ Below w.heap.size w w' := by
  obtain ⟨w1, hw1⟩ : ∃ w1, w.alloc (.cells #[.pointer (some ⟨p, 0, none⟩)] 23) = w1 := ⟨_, rfl⟩
  have hq1 : Qb w1 p bm vs c L := hq.keep (F := fun _ => False) (by subst hw1; exact (Fr.refl _ _).alloc _) (fun _ _ h => h)
  have hbel : Below w.heap.size w w1 := by subst hw1; exact (Below.refl _ _).alloc (Nat.le_refl _) _
  have hg : w1.cell? ⟨w.heap.size, 0, none⟩ = some (.pointer (some ⟨p, 0, none⟩)) := by
    have := heap_alloc_new w (.cells #[.pointer (some ⟨p, 0, none⟩)] 23)
    rw [hw1] at this
    have := blk_cell this 0
    simpa using this
  obtain ⟨B, hB⟩ : ∃ B, w.heap.size = B := ⟨_, rfl⟩
  have c1 := blk_cell hq1.blk 1
  simp at c1
  go_enter Try.func23, Try.ntmps23
  rw [hB] at hbel hg ⊢
  go_wp2_with fail
  refine (some_is p bm vs c L 4 B _ hq1 hg (by omega) (by omega) _ rfl).mono ?_
  rintro e w2 ⟨rfl, rfl⟩
  by_cases e4 : L 4 ≠ []
  · simp only [e4, decide_true, ne_eq, not_false_eq_true]
    go_wp2_with fail
    go_ret
    exact ⟨by simp [qturn, e4], hbel⟩
  have f4 : decide (L 4 ≠ []) = false := by simpa using e4
  simp only [f4]
  go_wp2_with fail
  refine (some_is p bm vs c L 3 B _ hq1 hg (by omega) (by omega) _ rfl).mono ?_
  rintro e w2 ⟨rfl, rfl⟩
  by_cases e3 : L 3 ≠ []
  · simp only [e3, decide_true, ne_eq, not_false_eq_true]
    go_wp2_with fail
    go_ret
    exact ⟨by simp [qturn, e3, e4], hbel⟩
  have f3 : decide (L 3 ≠ []) = false := by simpa using e3
  simp only [f3]
  go_wp2_with fail
  refine (some_is p bm vs c L 2 B _ hq1 hg (by omega) (by omega) _ rfl).mono ?_
  rintro e w2 ⟨rfl, rfl⟩
  have e4' : L 4 = [] := by simpa using e4
  have e3' : L 3 = [] := by simpa using e3
  have HB := Lib.hid hbel
  clear hbel e4 e3 f4 f3
  by_cases e2 : L 2 = []
  · have f2 : decide (L 2 ≠ []) = false := by simp [e2]
    simp only [f2]
    go_wp2_with fail
    refine (some_is p bm vs c L 1 B _ hq1 hg (by omega) (by omega) _ rfl).mono ?_
    rintro e w2 ⟨rfl, rfl⟩
    by_cases e1 : L 1 = []
    · have f1 : decide (L 1 ≠ []) = false := by simp [e1]
      simp only [f1]
      go_wp2_with fail
      go_ret
      exact ⟨by simp [qturn, e1, e2, e3', e4'], HB.out⟩
    · have f1 : decide (L 1 ≠ []) = true := by simp [e1]
      simp only [f1]
      go_wp2_with fail
      go_ret
      exact ⟨by simp [qturn, e1, e2, e3', e4'], HB.out⟩
  · have f2 : decide (L 2 ≠ []) = true := by simp [e2]
    simp only [f2]
    go_wp2_with fail
    refine (some_is p bm vs c L 1 B _ hq1 hg (by omega) (by omega) _ rfl).mono ?_
    rintro e w2 ⟨rfl, rfl⟩
    by_cases e1 : L 1 = []
    · have f1 : decide (L 1 ≠ []) = false := by simp [e1]
      simp only [f1]
      go_wp2_with fail
      go_ret
      exact ⟨by simp [qturn, e1, e2, e3', e4'], HB.out⟩
    · have f1 : decide (L 1 ≠ []) = true := by simp [e1]
      simp only [f1]
      by_cases hc : c < 8
      · go_wp2_with fail
        go_ret
        exact ⟨by simp [qturn, e1, e2, e3', e4', hc], HB.out⟩
      · go_wp2_with fail
        refine (some_is p bm vs c L 1 B _ hq1 hg (by omega) (by omega) _ rfl).mono ?_
        rintro e w2 ⟨rfl, rfl⟩
        simp only [f1]
        go_wp2_with fail
        go_ret
        exact ⟨by simp [qturn, e1, e2, e3', e4', hc], HB.out⟩
theorem Sl.drop {w : World} {e size n g off cap : Nat} {xs : List Value} (h : Sl w e size (.slice (some ⟨g, off, none⟩) n cap) n xs) {k : Nat} (hk : k ≤ n) :
    Sl w e size (.slice (some (if cap = k then ⟨g, off, none⟩ else ⟨g, off + k * size, none⟩)) (n - k) (cap - k)) (n - k) (xs.drop (k * size)) := by
  obtain ⟨ao', cap', hv, h0, h1, h2, h3⟩ := h
  simp at hv
  obtain ⟨rfl, rfl⟩ := hv
  rcases h3 with ⟨h, _⟩ | ⟨g', off', cur, hv, hb, hc, hx⟩
  · cases h
  simp at hv
  obtain ⟨rfl, rfl⟩ := hv
  have hm : k * size ≤ n * size := Nat.mul_le_mul_right _ hk
  have hm2 : k * size ≤ cap * size := Nat.mul_le_mul_right _ (by omega)
  refine ⟨_, _, rfl, by rw [List.length_drop, h0, Nat.sub_mul], by omega, by omega, .inr ?_⟩
  by_cases hck : cap = k
  · rw [if_pos hck]
    refine ⟨g, off, cur, rfl, hb, by rw [show cap - k = 0 by omega]; omega, ?_⟩
    rw [show n - k = 0 by omega, ← hx, show k = n by omega]
    simp
  · rw [if_neg hck]
    refine ⟨g, off + k * size, cur, rfl, hb, by rw [Nat.sub_mul]; omega, ?_⟩
    rw [← hx, Nat.sub_mul, List.drop_take, List.drop_drop]

def qcount (k c : Int) : Int := if k = 2 then min (c + 1) 8 else if k = 1 then 0 else c

theorem qturn_range (L : Int → List Int) (c : Int) : 0 ≤ qturn L c ∧ qturn L c ≤ 4 := by
  unfold qturn
  split <;> (try split) <;> (try split) <;> (try split) <;> omega

theorem Qb.same {w w' : World} {p bm : Nat} {vs : Int → Value} {c : Int} {L : Int → List Int} (h : Qb w p bm vs c L) (hb : Below w.heap.size w w') : QPost p bm vs c L w w' :=
  ⟨vs, h.keep (bel_fr hb) (fun k hk h' => by have := h.lt k hk; omega), ⟨hb.os, hb.tape, hb.output, hb.size, fun k hk _ => hb.block k hk⟩, fun _ h => .inl h⟩

theorem Next_none (p bm : Nat) (vs : Int → Value) (c : Int) (L : Int → List Int) (w : World) (hq : Qb w p bm vs c L) (h0 : qturn L c = 0) :
    Calls Try.prog 10 #[.pointer (some ⟨p, 0, none⟩)] w fun e w' => e = .returned (.tuple #[.int .i64 0, .int .i64 5]) ∧ QPost p bm vs c L w w' := by
  go_enter Try.func10, Try.ntmps10
  go_wp2_with fail
  refine (turn_any p bm vs c L _ hq).mono ?_
  rintro e w1 ⟨rfl, hb⟩
  rw [h0]
  go_wp2_with fail
  go_ret2
  exact ⟨rfl, hq.same hb⟩

theorem QPost.count {w w' : World} {p bm : Nat} {vs : Int → Value} {c : Int} {L : Int → List Int} (h : QPost p bm vs c L w w') (c' : Int) : QPost p bm vs c' L w (w'.setCell ⟨p, 1, none⟩ (.int .i64 c')) := by
  obtain ⟨vs', hq, hf, hg⟩ := h
  refine ⟨vs', ⟨by rw [blk_set hq.blk]; rfl, hq.mp.keep (blk_set_other _ (Ne.symm hq.ne)), fun k k1 k4 => (hq.own k k1 k4).set_other _ fun b hb e => hq.nep k1 k4 (by rw [hb, e]), hq.nem, hq.dis⟩, hf.setCell (.inl (.inl rfl)) _, hg⟩

theorem bel_fr0 {w w' : World} (hb : Below w.heap.size w w') : Fr (fun _ => False) w w' := ⟨hb.os, hb.tape, hb.output, hb.size, fun k hk _ => hb.block k hk⟩

theorem Next_some (p bm : Nat) (vs : Int → Value) (c : Int) (L : Int → List Int) (w : World) (hq : Qb w p bm vs c L) (k : Int) (hk : qturn L c = k) (k1 : 1 ≤ k) (x : Int) (r : List Int) (hx : L k = x :: r) (hc0 : 0 ≤ c) (hc8 : c ≤ 8) :
    Calls Try.prog 10 #[.pointer (some ⟨p, 0, none⟩)] w fun e w' => e = .returned (.tuple #[.int .i64 x, .int .i64 0]) ∧ QPost p bm vs (qcount k c) (setL L k r) w w' := by
  have k4 : k ≤ 4 := by have := qturn_range L c; omega
  go_enter Try.func10, Try.ntmps10
  go_wp2_with fail
  refine (turn_any p bm vs c L _ hq).mono ?_
  rintro e w1 ⟨rfl, hb⟩
  rw [hk]
  clear hk
  have hq1 : Qb w1 p bm vs c L := hq.keep (bel_fr hb) (fun k hk h' => by have := hq.lt k hk; omega)
  have c0 := blk_cell hq1.blk 0
  have c1 := blk_cell hq1.blk 1
  simp at c0 c1
  have hs := hq1.own k k1 k4
  have hlk := hq1.mp.look k k1 k4
  obtain ⟨ao, cap, hvs, hcap, hmax⟩ := hs.shape
  unfold maxLen at hmax
  rw [hvs] at hlk hs
  rw [hx] at hlk hs hcap
  obtain ⟨g, off, cap', hv', _, _, hcell⟩ := hs.rd.at (by simp)
  simp at hv'
  obtain ⟨rfl, rfl⟩ := hv'
  have hck := hcell 0 (by simp)
  simp at hck
  simp only [List.length_cons] at hlk hcap hs
  obtain ⟨n, hn⟩ : ∃ n, r.length = n := ⟨_, rfl⟩
  rw [hn] at hlk hcap hs
  clear hcell
  go_upto_region 7 with fail
  refine wp_region_ord (Ord.take 0 (.take 1 (.take 2 (.take 3 (.take 4 (.take 5 (.take 6 (.take 7 (.take 8 (.take 9 (.alone 10 (.take 11 (.alone 12 .done)))))))))))))
    (fun W => W.cell? ⟨p, 0, none⟩ = some (.map (some bm))) (by kernel_rfl) (by kernel_rfl) (by kernel_rfl) (fun c a d v w h => by cases d <;> exact h) c0 ?_
  refine ord_take (o := ⟨some 20, _, _, _, _, none⟩) _ rfl (by rfl) (fun W hW => by (go_simp; with_reducible rfl)) ?_
  simp only [Act.put, List.setIfInBounds_toArray, List.set_cons_zero, List.set_cons_succ]
  refine ord_take (o := ⟨some 21, _, _, _, _, none⟩) _ rfl (by rfl) (fun W hW => by (go_simp; with_reducible rfl)) ?_
  simp only [Act.put, List.setIfInBounds_toArray, List.set_cons_zero, List.set_cons_succ]
  refine ord_take (o := ⟨some 22, _, _, _, _, none⟩) _ rfl (by rfl) (fun W hW => by (go_simp; with_reducible rfl)) ?_
  simp only [Act.put, List.setIfInBounds_toArray, List.set_cons_zero, List.set_cons_succ]
  refine ord_take (o := ⟨some 23, _, _, _, _, none⟩) _ rfl (by rfl) (fun W hW => by (go_simp; with_reducible rfl)) ?_
  simp only [Act.put, List.setIfInBounds_toArray, List.set_cons_zero, List.set_cons_succ]
  refine ord_take (o := ⟨some 24, _, _, _, _, none⟩) _ rfl (by rfl) (fun W hW => by (go_simp; with_reducible rfl)) ?_
  simp only [Act.put, List.setIfInBounds_toArray, List.set_cons_zero, List.set_cons_succ]
  refine ord_take (o := ⟨some 25, _, _, _, _, none⟩) _ rfl (by rfl) (fun W hW => by (go_simp; with_reducible rfl)) ?_
  simp only [Act.put, List.setIfInBounds_toArray, List.set_cons_zero, List.set_cons_succ]
  refine ord_take (o := ⟨some 26, _, _, _, _, none⟩) _ rfl (by rfl) (fun W hW => by (go_simp; with_reducible rfl)) ?_
  simp only [Act.put, List.setIfInBounds_toArray, List.set_cons_zero, List.set_cons_succ]
  refine ord_take (o := ⟨some 27, _, _, _, _, none⟩) _ rfl (by rfl) (fun W hW => by (go_simp; with_reducible rfl)) ?_
  simp only [Act.put, List.setIfInBounds_toArray, List.set_cons_zero, List.set_cons_succ]
  refine ord_take (o := ⟨some 28, _, _, _, _, none⟩) _ rfl (by rfl) (fun W hW => by (go_simp; with_reducible rfl)) ?_
  simp only [Act.put, List.setIfInBounds_toArray, List.set_cons_zero, List.set_cons_succ]
  refine ord_take (o := ⟨some 29, _, _, _, _, none⟩) _ rfl (by rfl) (fun W hW => by (go_simp; with_reducible rfl)) ?_
  simp only [Act.put, List.setIfInBounds_toArray, List.set_cons_zero, List.set_cons_succ]
  have hq2 : Qb w1.drew p bm vs c L := hq1.drewN 1
  refine ord_alone (o := ⟨some 30, _, _, _, _, none⟩) rfl (by rfl) (fun K hK => ?_)
  refine wp_look (.tmp 28) (.tmp 29) rfl rfl k rfl k1 k4 hq2.mp ?_
  rw [hvs, hx]
  simp only [Act.put, List.setIfInBounds_toArray, List.set_cons_zero, List.set_cons_succ, List.length_cons, hn]
  refine hK _ _ c0 ?_
  clear hK K
  obtain ⟨v', hv'⟩ : ∃ v', Value.slice (if cap = 1 then some ⟨g, off, none⟩ else some ⟨g, off + 1, none⟩) n (cap - 1) = v' := ⟨_, rfl⟩
  have hsv : Sl w1.drew 2 1 v' r.length (i64s r) := by
    have hsd := Sl.drop hs (k := 1) (by omega)
    rw [← hv', hn]
    have e : (if cap = 1 then some ⟨g, off, none⟩ else some ⟨g, off + 1, none⟩ : Option Addr) = some (if cap = 1 then ⟨g, off, none⟩ else ⟨g, off + 1 * 1, none⟩) := by split <;> rfl
    rw [e]
    exact Sl.drewN (by simpa using hsd) 1
  have hob : v'.ownBlock = (vs k).ownBlock := by
    rw [← hv', hvs]; split <;> rfl
  refine ord_take (o := ⟨some 31, _, _, _, _, none⟩) v' rfl (by rfl) (fun W hW => by go_simp; intro h; omega) ?_
  simp only [Act.put, List.setIfInBounds_toArray, List.set_cons_zero, List.set_cons_succ]
  refine ord_alone (o := ⟨none, _, _, _, _, none⟩) rfl (by rfl) (fun K hK => ?_)
  refine wp_store (.tmp 23) (.tmp 24) (.tmp 31) rfl rfl k rfl v' rfl k1 k4 hq2.mp ?_
  intro w4 hmp4 hg4
  have hf4 : Fr (fun b => b = bm) w1.drew w4 := (Fr.refl _ _).grown hg4 (fun b hb => by cases hb; exact .inl rfl)
  have hpost := hq2.put k1 k4 (Fr.refl _ _) (l := r) hsv (.inl hob) hmp4 hf4
  have hp4 := hf4.at hq2.blk hq2.ne
  have c4 := blk_cell hp4 0
  have c5 := blk_cell hp4 1
  have f5 := blk_free hp4 1
  simp at c4 c5
  simp only [Act.put]
  refine hK _ _ c4 ?_
  have HQ := Lib.hid hpost
  clear hK K hs hvs hlk hv' hsv hob hck hq1 hq2 hpost hf4 hmp4 hg4
  refine ord_done ?_
  by_cases k2 : k = 2
  · subst k2
    by_cases h7 : c + 1 ≤ 8
    · go_wp2_with fail
      go_ret2
      exact ⟨rfl, by rw [show qcount 2 c = c + 1 from Int.min_eq_left h7]; exact (HQ.out.count _).from ((bel_fr0 hb).drewN 1) (fun _ h => h.elim)⟩
    · go_wp2_with fail
      go_ret2
      exact ⟨rfl, by rw [show qcount 2 c = 8 from Int.min_eq_right (by omega)]; exact (HQ.out.count _).from ((bel_fr0 hb).drewN 1) (fun _ h => h.elim)⟩
  · by_cases k3 : k = 1
    · subst k3
      go_wp2_with fail
      go_ret2
      exact ⟨rfl, (HQ.out.count _).from ((bel_fr0 hb).drewN 1) (fun _ h => h.elim)⟩
    · go_wp2_with fail
      go_ret2
      exact ⟨rfl, by rw [show qcount k c = c by unfold qcount; rw [if_neg k2, if_neg k3]]; exact HQ.out.from ((bel_fr0 hb).drewN 1) (fun _ h => h.elim)⟩

end Go.Proofs.Ytjdinopiipmojaa
