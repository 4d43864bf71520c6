/- The document's own mailbox: what each of its calls does to a box in memory. -/
import Derived.Test.YtbedgeimpobhdaaWords
import Derived.StillTailTactics
namespace Go.Proofs.Ytbedgeimpobhdaa
open Go.RowKit

/-- The document's box at block q. -/
structure RBox (w : World) (q : Nat) (room : Int) (at_ : Nat) (last ex : Int) (l : List Int) (sl : Value) : Prop where
  blk : w.heap[q]? = some (.cells #[.int .i64 room, sl, .int .i64 (at_ : Int), .int .i64 last, .int .i64 ex] 45 (0, 0))
  own : Sl w 28 1 sl l.length (l.map (Value.int .u64))

def RPost (q : Nat) (room : Int) (at_ : Nat) (last ex : Int) (l : List Int) (sl : Value) (w w' : World) : Prop :=
  ∃ sl', RBox w' q room at_ last ex l sl' ∧ Fr (bf q sl) w w' ∧ (∀ k, bf q sl' k → bf q sl k ∨ w.heap.size ≤ k)

theorem RBox.drewN {w : World} {q : Nat} {room : Int} {at_ : Nat} {last ex : Int} {l : List Int} {sl : Value} (h : RBox w q room at_ last ex l sl) (n : Nat) : RBox (w.drewN n) q room at_ last ex l sl := ⟨h.blk, h.own.drewN n⟩
theorem RBox.post {w w' : World} {q : Nat} {room : Int} {at_ : Nat} {last ex : Int} {l : List Int} {sl : Value} (h : RBox w q room at_ last ex l sl) (hw : ∃ n, w' = w.drewN n) : RPost q room at_ last ex l sl w w' := by
  obtain ⟨n, rfl⟩ := hw
  exact ⟨sl, h.drewN n, (Fr.refl _ _).drewN n, fun _ hk => .inl hk⟩
theorem RPost.trans {q : Nat} {room : Int} {at_ : Nat} {last ex : Int} {l : List Int} {sl sl1 : Value} {w w1 w' : World}
    (hf : Fr (bf q sl) w w1) (hg : ∀ k, bf q sl1 k → bf q sl k ∨ w.heap.size ≤ k) (h : RPost q room at_ last ex l sl1 w1 w') : RPost q room at_ last ex l sl w w' := by
  obtain ⟨sl', hb, hf', hg'⟩ := h
  refine ⟨sl', hb, hf.trans' hf' hg, fun k hk => ?_⟩
  rcases hg' k hk with h | h
  · exact hg k h
  · exact .inr (Nat.le_trans hf.size h)
theorem RBox.lt {w : World} {q : Nat} {room : Int} {at_ : Nat} {last ex : Int} {l : List Int} {sl : Value} (h : RBox w q room at_ last ex l sl) : ∀ k, bf q sl k → k < w.heap.size := by
  rintro k (rfl | hk)
  · exact blk_lt h.blk
  · exact h.own.lt k hk
theorem RBox.keep {w w' : World} {q : Nat} {room : Int} {at_ : Nat} {last ex : Int} {l : List Int} {sl : Value} (h : RBox w q room at_ last ex l sl) {F : Nat → Prop} (hf : Fr F w w') (hF : ∀ k, bf q sl k → ¬ F k) : RBox w' q room at_ last ex l sl :=
  ⟨hf.at h.blk (hF q (.inl rfl)), hf.sl h.own (fun k hk => hF k (.inr hk))⟩

set_option maxHeartbeats 800000 in
theorem RPut_room (q : Nat) (room : Int) (at_ : Nat) (last ex m : Int) (l : List Int) (sl : Value) (w : World) (hb : RBox w q room at_ last ex l sl) (hl : l.length ≤ 1000) (hlt : (l.length : Int) < room) :
    Calls Try.prog 29 #[.pointer (some ⟨q, 0, none⟩), .int .u64 m] w fun e w' => e = .returned (.int .i64 0) ∧ RPost q room at_ last ex (l ++ [m]) sl w w' := by
  obtain ⟨i0, hinf, hz0, hz1, hz2⟩ := info_parts Try.info28
  obtain ⟨ao, cap, rfl, hcap, hmax⟩ := hb.own.shape
  have c0 := blk_cell hb.blk 0
  have c1 := blk_cell hb.blk 1
  have f1 := blk_free hb.blk 1
  simp at c0 c1
  unfold maxLen at hmax
  have hne := hb.own.ne hb.blk (by decide)
  go_enter Try.func29, Try.ntmps29
  go_wp2_with fail
  go_quiet (fail)
  go_wp2_with (at_builtin; refine wpList_append_sl rfl (.tmp 19) (.tmp 21) 22 rfl 28 i0 (.int .u64 0) 1 8 Try.underlying22 hinf hz0 hz1 hz2 rfl (by decide) (.slice ao l.length cap) l.length (l.map (Value.int .u64)) rfl ((hb.own.drewN nq).alloc _) ⟨w.heap.size, 0, none⟩ 1 1 [.int .u64 m] rfl rfl ?c1 ?c2 ?b1 ?b2 ?next)
  case c1 => intro j u hj; match j, hj with | 0, hj => simp at hj; subst hj; have := blk_cell (heap_alloc_new (w.drewN nq) (.cells #[.int .u64 m] 28)) 0; simpa [Addr.add] using this
  case c2 => intro u hu; simp at hu; subst hu; rfl
  case b1 => unfold maxLen; omega
  case b2 => omega
  case next =>
    intro v' w1 hown hgrow hv
    have hfr1 : Fr (bf q (.slice ao l.length cap)) w w1 := (((Fr.refl _ w).drewN nq).alloc _).trans (hgrow.mono fun k hk => Or.inr hk)
    have hblk1 := hgrow.at (blk_alloc (o' := .cells #[.int .u64 m] 28) (hb.drewN nq).blk) (fun e => hne q e rfl)
    clear c0 c1 f1
    have c1' := blk_cell hblk1 1
    have f1' := blk_free hblk1 1
    simp at c1'
    obtain ⟨ao, cap, rfl, _, _⟩ := hown.shape
    go_wp2
    go_ret
    exact ⟨rfl, _, ⟨by rw [blk_set hblk1]; rfl, by simpa using hown.set_other (a := ⟨q, 1, none⟩) _ (hown.ne hblk1 (by decide))⟩, hfr1.setCell (Or.inl (Or.inl rfl)) _, by
      rintro k (h | h)
      · exact .inl (.inl h)
      · rcases hv with hv | hv
        · exact .inl (.inr (hv ▸ h))
        · rw [hv] at h; simp at h; exact .inr (by omega)⟩

set_option maxHeartbeats 800000 in
theorem RPut_full (q : Nat) (room : Int) (at_ : Nat) (last ex m : Int) (l : List Int) (sl : Value) (w : World) (hb : RBox w q room at_ last ex l sl) (hlt : room ≤ (l.length : Int)) :
    Calls Try.prog 29 #[.pointer (some ⟨q, 0, none⟩), .int .u64 m] w fun e w' => e = .returned (.int .i64 110) ∧ RPost q room at_ last ex l sl w w' := by
  obtain ⟨ao, cap, rfl, hcap, hmax⟩ := hb.own.shape
  have c0 := blk_cell hb.blk 0
  have c1 := blk_cell hb.blk 1
  simp at c0 c1
  unfold maxLen at hmax
  go_enter Try.func29, Try.ntmps29
  go_wp2_with fail
  go_quiet (fail)
  go_wp2
  go_ret
  exact ⟨rfl, hb.post ⟨_, rfl⟩⟩

set_option maxHeartbeats 1600000 in
theorem RNext_more (q : Nat) (room : Int) (at_ : Nat) (last ex : Int) (l : List Int) (sl : Value) (w : World) (hb : RBox w q room at_ last ex l sl) (m : Int) (hm : l[at_]? = some m) (hl : l.length ≤ 1000) :
    Calls Try.prog 30 #[.pointer (some ⟨q, 0, none⟩)] w fun e w' => e = .returned (.tuple #[.int .u64 m, .bool true]) ∧ RPost q room (at_ + 1) at_ (wrap64 (ex + 1)) l sl w w' := by
  have hlt : at_ < l.length := (List.getElem?_eq_some_iff.1 hm).1
  obtain ⟨g, off, cap, cur, rfl, hcap, hmax, hg, hfit, htake⟩ := hb.own.blk (by omega)
  have c1 := blk_cell hb.blk 1
  have c2 := blk_cell hb.blk 2
  have c3 := blk_cell hb.blk 3
  have c4 := blk_cell hb.blk 4
  have f2 := blk_free hb.blk 2
  have f3 := blk_free hb.blk 3
  have f4 := blk_free hb.blk 4
  have hne := hb.own.ne hb.blk (by decide) g rfl
  simp at c1 c2 c3 c4
  unfold maxLen at hmax
  go_enter Try.func30, Try.ntmps30
  go_wp2_with fail
  go_quiet (fail)
  go_wp2_with fail
  obtain ⟨w2, hw2⟩ : ∃ w2, (((w.drewN nq).setCell ⟨q, 3, none⟩ (.int .i64 (at_ : Int))).setCell ⟨q, 2, none⟩ (.int .i64 (at_ + 1 : Int))).setCell ⟨q, 4, none⟩ (.int .i64 (wrap64 (ex + 1))) = w2 := ⟨_, rfl⟩
  have hb2 : RBox w2 q room (at_ + 1) at_ (wrap64 (ex + 1)) l (.slice (some ⟨g, off, none⟩) l.length cap) := by
    subst hw2
    refine ⟨?_, ?_⟩
    · rw [blk_set (blk_set (blk_set (w := w.drewN nq) hb.blk 3 _) 2 _) 4]; simp
    · have hk : ∀ k, (Value.slice (some ⟨g, off, none⟩) l.length cap).ownBlock = some k → k ≠ q := fun k hk => by simp [Value.ownBlock] at hk; subst hk; exact hne
      exact (((hb.own.drewN nq).set_other (a := ⟨q, 3, none⟩) _ hk).set_other (a := ⟨q, 2, none⟩) _ hk).set_other (a := ⟨q, 4, none⟩) _ hk
  have hf2 : Fr (bf q (.slice (some ⟨g, off, none⟩) l.length cap)) w w2 := by
    subst hw2
    exact ((((Fr.refl _ _).drewN nq).setCell (Or.inl (Or.inl rfl)) _).setCell (Or.inl (Or.inl rfl)) _).setCell (Or.inl (Or.inl rfl)) _
  rw [hw2]
  clear hw2 c1 c2 c3 c4 f2 f3 f4
  have c1 := blk_cell hb2.blk 1
  have c3 := blk_cell hb2.blk 3
  have hd := hb2.own.cell at_ (by omega)
  rw [List.getElem?_map, hm] at hd
  simp at c1 c3 hd
  clear hm
  go_quiet (fail)
  go_wp2
  go_ret2
  exact ⟨rfl, RPost.trans hf2 (fun _ hk => .inl hk) (hb2.post ⟨_, rfl⟩)⟩

set_option maxHeartbeats 800000 in
theorem RNext_none (q : Nat) (room : Int) (at_ : Nat) (last ex : Int) (l : List Int) (sl : Value) (w : World) (hb : RBox w q room at_ last ex l sl) (hlt : l.length ≤ at_) :
    Calls Try.prog 30 #[.pointer (some ⟨q, 0, none⟩)] w fun e w' => e = .returned (.tuple #[.int .u64 0, .bool false]) ∧ RPost q room at_ last ex l sl w w' := by
  obtain ⟨ao, cap, rfl, hcap, hmax⟩ := hb.own.shape
  have c1 := blk_cell hb.blk 1
  have c2 := blk_cell hb.blk 2
  simp at c1 c2
  unfold maxLen at hmax
  go_enter Try.func30, Try.ntmps30
  go_wp2_with fail
  go_quiet (fail)
  go_wp2
  go_ret2
  exact ⟨rfl, hb.post ⟨_, rfl⟩⟩

theorem RStop_any (q : Nat) (room : Int) (at_ : Nat) (last ex : Int) (l : List Int) (sl : Value) (w : World) (hb : RBox w q room at_ last ex l sl) :
    Calls Try.prog 32 #[.pointer (some ⟨q, 0, none⟩)] w fun e w' => e = .returned (.tuple #[]) ∧ RPost q room 0 (-1) ex l sl w w' := by
  have c2 := blk_cell hb.blk 2
  have f2 := blk_free hb.blk 2
  have c3 := blk_cell hb.blk 3
  have f3 := blk_free hb.blk 3
  simp at c2 c3
  have hk := hb.own.ne hb.blk (by decide)
  go_enter Try.func32, Try.ntmps32
  go_wp2
  go_end0
  refine ⟨rfl, sl, ⟨?_, ((hb.own.set_other (a := ⟨q, 2, none⟩) _ hk).set_other (a := ⟨q, 3, none⟩) _ hk)⟩, ((Fr.refl _ _).setCell (Or.inl (Or.inl rfl)) _).setCell (Or.inl (Or.inl rfl)) _, fun _ h => .inl h⟩
  rw [blk_set (blk_set hb.blk 2 _) 3]; simp

set_option maxHeartbeats 800000 in
theorem RTake_none (q : Nat) (room : Int) (at_ : Nat) (ex : Int) (l : List Int) (sl : Value) (w : World) (hb : RBox w q room at_ (-1) ex l sl) :
    Calls Try.prog 31 #[.pointer (some ⟨q, 0, none⟩)] w fun e w' => e = .returned (.tuple #[.int .u64 0, .int .i64 111]) ∧ w = w' := by
  have c3 := blk_cell hb.blk 3
  simp at c3
  go_enter Try.func31, Try.ntmps31
  go_wp2
  go_ret2
  exact ⟨rfl, rfl⟩

set_option maxHeartbeats 3200000 in
set_option maxRecDepth 100000 in
theorem RTake_some (q : Nat) (room : Int) (at_ k : Nat) (ex : Int) (l : List Int) (sl : Value) (w : World) (hb : RBox w q room at_ k ex l sl) (m : Int) (hm : l[k]? = some m) (hl : l.length ≤ 1000) :
    Calls Try.prog 31 #[.pointer (some ⟨q, 0, none⟩)] w fun e w' => e = .returned (.tuple #[.int .u64 m, .int .i64 0]) ∧ RPost q room 0 (-1) ex (l.take k ++ l.drop (k + 1)) sl w w' := by
  obtain ⟨i0, hinf, hz0, hz1, hz2⟩ := info_parts Try.info28
  have hk : k < l.length := (List.getElem?_eq_some_iff.1 hm).1
  obtain ⟨g, off, cap, cur, rfl, hcap, hmax, hg, hfit, htake⟩ := hb.own.blk (by omega)
  have c1 := blk_cell hb.blk 1
  have c3 := blk_cell hb.blk 3
  have hd := hb.own.cell k (by omega)
  rw [List.getElem?_map, hm] at hd
  simp at c1 c3 hd
  unfold maxLen at hmax
  clear hm hg htake
  go_enter Try.func31, Try.ntmps31
  go_wp2_with fail
  go_quiet (fail)
  go_wp2_with fail
  refine wp_region_still_tail 10 (by kernel_rfl) (by kernel_rfl) ?_
  simp only [List.take_succ_cons, List.take_zero, List.drop_succ_cons, List.drop_zero]
  change wpStill _ _ ((w.drewN nq).drew) (fun a' => wpList _ _ _ _ a' ((w.drewN nq).drew)) _ _
  have hb1 : RBox ((w.drewN nq).drew) q room at_ k ex l _ := hb.drewN (nq + 1)
  have hf1 : Fr (fun _ => False) w ((w.drewN nq).drew) := ((Fr.refl _ w).drewN nq).drew
  generalize (w.drewN nq).drew = w2 at hb1 hf1 ⊢
  clear c1 c3 hd
  have c1 := blk_cell hb1.blk 1
  have c3 := blk_cell hb1.blk 3
  simp at c1 c3
  have hkc : (k : Int) ≤ cap := by omega
  repeat still_step
  refine wpStill_nil ?_
  have q1 : Rd w2 1 (.slice (some ⟨g, off, none⟩) k cap) k (u64s (l.take k)) := by
    have := hb1.own.rd.take (show k ≤ l.length by omega)
    simpa [u64s] using this
  go_wp2_with (at_builtin; refine wpList_append_sl_rd rfl (.tmp 21) (.tmp 30) 22 rfl 28 i0 (.int .u64 0) 1 8 Try.underlying22 hinf hz0 hz1 hz2 rfl (by decide) (.slice none 0 0) 0 [] rfl (Sl.nil _ _ _) _ k (u64s (l.take k)) rfl q1 (u64s_one _) (by unfold maxLen; omega) (by omega) ?nx)
  case nx =>
  intro v3 w3 hs3 hf3 hv3
  have hf4 : Fr (fun _ => False) w w3 := hf1.trans (hf3.mono (by simp [Value.ownBlock]))
  have hb3 := hb1.keep hf3 (by simp [Value.ownBlock])
  have hn3 : ∀ k, v3.ownBlock = some k → w.heap.size ≤ k := by
    intro k hk
    rcases hv3 with h | h
    · rw [h] at hk; simp [Value.ownBlock] at hk
    · rw [h] at hk; simp at hk; have := hf1.size; omega
  clear hf1 hb1 hf3 hv3 c1 c3 q1
  go_wp2_with fail
  refine wp_region_still_tail 11 (by kernel_rfl) (by kernel_rfl) ?_
  simp only [List.take_succ_cons, List.take_zero, List.drop_succ_cons, List.drop_zero]
  change wpStill _ _ (w3.drew) (fun a' => wpList _ _ _ _ a' (w3.drew)) _ _
  have hb4 : RBox w3.drew q room at_ k ex l _ := hb3.drewN 1
  have hf5 : Fr (fun _ => False) w w3.drew := hf4.drew
  have hs4 : Sl w3.drew 28 1 v3 k (u64s (l.take k)) := hs3.drewN 1
  generalize w3.drew = w4 at hb4 hf5 hs4 ⊢
  clear hb3 hf4 hs3
  have c1 := blk_cell hb4.blk 1
  have c3 := blk_cell hb4.blk 3
  simp at c1 c3
  have hwr : IntKind.i64.wrap ((k : Int) + 1) = (k : Int) + 1 := by rw [IntKind.wrap_i64]; omega
  have hp0 : (0 : Int) ≤ (k : Int) + 1 := by omega
  have hp1 : (k : Int) + 1 ≤ (l.length : Int) := by omega
  have hp2 : ((k : Int) + 1).toNat = k + 1 := by omega
  obtain ⟨A, hA, q2⟩ : ∃ A, (if cap = k + 1 then some (⟨g, off, none⟩ : Addr) else some ⟨g, off + (k + 1), none⟩) = A ∧ Hid (Rd w4 1 (.slice A (l.length - (k + 1)) (cap - (k + 1))) (l.length - (k + 1)) (u64s (l.drop (k + 1)))) := by
    have := hb4.own.rd.drop (show k + 1 ≤ l.length by omega)
    rw [Nat.mul_one] at this
    exact ⟨_, rfl, Lib.hid (by simpa [u64s] using this)⟩
  repeat still_step
  refine wpStill_nil ?_
  go_wp2_with (at_builtin; refine wpList_append_sl_rd rfl (.tmp 32) (.tmp 42) 22 rfl 28 i0 (.int .u64 0) 1 8 Try.underlying22 hinf hz0 hz1 hz2 rfl (by decide) v3 _ _ rfl hs4 _ (l.length - (k + 1)) (u64s (l.drop (k + 1))) rfl q2.out (u64s_one _) (by unfold maxLen; omega) (by omega) ?nx2)
  case nx2 =>
  intro v5 w5 hs5 hf6 hv5
  have hf7 : Fr (fun _ => False) w w5 := hf5.trans' hf6 (fun i hi => Or.inr (hn3 i hi))
  have hb5 := hb4.keep hf6 (fun i hi hF => by have h1 := hn3 i hF; have h2 := hb.lt i hi; omega)
  have hn5 : ∀ k, v5.ownBlock = some k → w.heap.size ≤ k := by
    intro k hk
    rcases hv5 with h | h
    · exact hn3 k (h ▸ hk)
    · rw [h] at hk; simp at hk; have := hf5.size; omega
  have hlen : (l.take k ++ l.drop (k + 1)).length = l.length - 1 := by simp; omega
  have hs6 : Sl w5 28 1 v5 (l.length - 1) (u64s (l.take k ++ l.drop (k + 1))) := by
    rw [show l.length - 1 = k + (l.length - (k + 1)) by omega]
    simpa [u64s] using hs5
  have HN := Lib.hid hlen
  obtain ⟨ao5, cap5, rfl, _, _⟩ := hs6.shape
  have c1' := blk_cell hb5.blk 1
  have f1' := blk_free hb5.blk 1
  simp at c1'
  clear hlen hs5 hf6 hv5 hs4 hf5 hn3 c1 c3 hwr hp0 hp1 hp2 hA q2 hb4
  have hb6 : RBox (w5.setCell ⟨q, 1, none⟩ (.slice ao5 (l.length - 1) cap5)) q room at_ k ex (l.take k ++ l.drop (k + 1)) (.slice ao5 (l.length - 1) cap5) :=
    ⟨by rw [blk_set hb5.blk]; simp, by rw [HN.out]; exact hs6.set_other (a := ⟨q, 1, none⟩) _ (hs6.ne hb5.blk (by decide))⟩
  go_wp2_with fail
  refine (RStop_any q room at_ _ ex _ _ _ hb6).mono ?_
  rintro e w7 ⟨rfl, hp⟩
  go_wp2_with fail
  go_ret2
  refine ⟨rfl, RPost.trans ((hf7.mono (fun _ h => h.elim)).setCell (p := ⟨q, 1, none⟩) (Or.inl (Or.inl rfl)) _) (fun i hi => ?_) hp⟩
  rcases hi with rfl | hi
  · exact .inl (.inl rfl)
  · exact .inr (hn5 i hi)

theorem RSwap_no (q : Nat) (room : Int) (at_ : Nat) (last ex : Int) (l : List Int) (sl : Value) (w : World) (hb : RBox w q room at_ last ex l sl) (v : Value) (n : Nat) (xs : List Int) (hv : Rd w 1 v n (u64s xs)) (hn : n ≠ l.length) :
    Calls Try.prog 33 #[.pointer (some ⟨q, 0, none⟩), v] w fun e w' => e = .returned (.int .i64 1) ∧ w = w' := by
  obtain ⟨ao, cap, rfl, hcap, hmax⟩ := hb.own.shape
  obtain ⟨ao2, cap2, rfl, _, _⟩ := hv.shape
  have c1 := blk_cell hb.blk 1
  simp at c1
  have ht : ((n : Int) == (l.length : Int)) = false := by simp; omega
  have ht2 : ((n : Int) != (l.length : Int)) = true := by simp; omega
  go_enter Try.func33, Try.ntmps33
  go_wp2
  go_ret
  exact ⟨rfl, rfl⟩

set_option maxHeartbeats 800000 in
theorem RSwap_yes (q : Nat) (room : Int) (at_ : Nat) (last ex : Int) (l : List Int) (sl : Value) (w : World) (hb : RBox w q room at_ last ex l sl) (v : Value) (xs : List Int) (hv : Rd w 1 v l.length (u64s xs)) (hl : l.length ≤ 1000) :
    Calls Try.prog 33 #[.pointer (some ⟨q, 0, none⟩), v] w fun e w' => e = .returned (.int .i64 0) ∧ RPost q room at_ last ex xs sl w w' := by
  obtain ⟨i0, hinf, hz0, hz1, hz2⟩ := info_parts Try.info28
  obtain ⟨ao, cap, rfl, hcap, hmax⟩ := hb.own.shape
  obtain ⟨ao2, cap2, rfl, _, _⟩ := hv.shape
  have HN := Lib.hid (show xs.length = l.length by have := hv.len; simpa [u64s] using this)
  have c1 := blk_cell hb.blk 1
  simp at c1
  go_enter Try.func33, Try.ntmps33
  go_wp2_with (at_builtin; refine wpList_append_sl_rd rfl (.tmp 14) (.tmp 15) 22 rfl 28 i0 (.int .u64 0) 1 8 Try.underlying22 hinf hz0 hz1 hz2 rfl (by decide) (.slice none 0 0) 0 [] rfl (Sl.nil _ _ _) _ l.length (u64s xs) rfl hv (u64s_one _) (by unfold maxLen; omega) (by omega) ?nx)
  case nx =>
  intro v3 w3 hs3 hf3 hv3
  have hf4 : Fr (fun _ => False) w w3 := hf3.mono (by simp [Value.ownBlock])
  have hb3 := hb.keep hf4 (fun _ _ h => h)
  have hn3 : ∀ k, v3.ownBlock = some k → w.heap.size ≤ k := by
    intro k hk
    rcases hv3 with h | h
    · rw [h] at hk; simp [Value.ownBlock] at hk
    · rw [h] at hk; simp at hk; omega
  have hs4 : Sl w3 28 1 v3 l.length (u64s xs) := by simpa using hs3
  obtain ⟨ao5, cap5, rfl, _, _⟩ := hs4.shape
  clear hs3 hf3 hv3 c1
  have c1' := blk_cell hb3.blk 1
  have f1' := blk_free hb3.blk 1
  simp at c1'
  go_wp2_with fail
  go_ret
  refine ⟨rfl, _, ⟨by rw [blk_set hb3.blk]; rfl, ?_⟩, (hf4.mono (fun _ h => h.elim)).setCell (p := ⟨q, 1, none⟩) (Or.inl (Or.inl rfl)) _, fun i hi => ?_⟩
  · rw [HN.out]; exact hs4.set_other (a := ⟨q, 1, none⟩) _ (hs4.ne hb3.blk (by decide))
  · rcases hi with rfl | hi
    · exact .inl (.inl rfl)
    · exact .inr (hn3 i hi)
end Go.Proofs.Ytbedgeimpobhdaa
