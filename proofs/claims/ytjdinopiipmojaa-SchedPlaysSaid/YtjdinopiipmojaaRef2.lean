/- The document's queue: Add, out, Drop, Next, Copy, All. -/
import Derived.Test.YtjdinopiipmojaaRef
namespace Go.Proofs.Ytjdinopiipmojaa
open Go.RowKit

set_option maxHeartbeats 1600000 in
set_option maxRecDepth 100000 in
theorem ROut_any (q : Nat) (v : Value) (E : List (Int × Int)) (c : Int) (k : Nat) (a b : Int) (w : World) (hq : Rq w q v E c) (hk : E[k]? = some (a, b)) (hl : E.length ≤ 1000) :
    Calls Try.prog 34 #[.pointer (some ⟨q, 0, none⟩), .int .i64 k] w fun e w' => e = .returned (.int .i64 a) ∧ RPost q v (cutE E k) c w w' := by
  obtain ⟨i0, hinf, hz0, hz1, hz2⟩ := info_parts Try.info64
  have hkl : k < E.length := (List.getElem?_eq_some_iff.1 hk).1
  obtain ⟨g, off, cap, cur, rfl, hcap, hmax, hg, hfit, htake⟩ := hq.own.blk (by omega)
  obtain ⟨X, hX⟩ : ∃ X, w.heap.size = X := ⟨_, rfl⟩
  obtain ⟨w1, hw1⟩ : ∃ w1, w.alloc (.cells #[.int .i64 a, .int .i64 b] 64) = w1 := ⟨_, rfl⟩
  have hf1 : Fr (fun _ => False) w w1 := by subst hw1; exact (Fr.refl _ w).alloc _
  have hq1 := hq.keep hf1 (fun _ _ h => h)
  have hx1 : w1.heap[X]? = some (.cells #[.int .i64 a, .int .i64 b] 64 (0, 0)) := by subst hw1 hX; exact heap_alloc_new w _
  have hqX : q < X := by rw [← hX]; exact blk_lt hq.blk
  have c0 := blk_cell hq.blk 0
  have c1 := blk_cell hq1.blk 0
  have d0 := hq.own.cell (k * 2) (by omega)
  have d1 := hq.own.cell (k * 2 + 1) (by omega)
  rw [(ents_at E k a b hk).1] at d0
  rw [(ents_at E k a b hk).2, ← Nat.add_assoc] at d1
  simp at c0 c1
  unfold maxLen at hmax
  have HK := Lib.hid hk
  have q1 : Rd w1 2 (.slice (some ⟨g, off, none⟩) k cap) k (ents (E.take k)) := by
    have := hq1.own.rd.take (show k ≤ E.length by omega)
    rwa [ents_take] at this
  have hkc : (k : Int) ≤ cap := by omega
  clear hg htake hk
  go_enter Try.func34, Try.ntmps34
  go_wp2_with (at_builtin; refine wpList_append_sl_rd rfl (.tmp 14) (.tmp 20) 44 rfl 64 i0 (.agg #[.int .i64 0, .int .i64 0]) 2 16 Try.underlying44 hinf hz0 hz1 hz2 rfl (by decide) (.slice none 0 0) 0 [] rfl (Sl.nil _ _ _) _ k (ents (E.take k)) rfl q1 (ents_one _) (by unfold maxLen; omega) (by omega) ?nx)
  case nx =>
  intro v3 w3 hs3 hf3 hv3
  have hfw : Fr (fun _ => False) w1 w3 := hf3.mono (by simp [Value.ownBlock])
  have hf4 : Fr (fun _ => False) w w3 := hf1.trans hfw
  have hq3 := hq1.keep hfw (fun _ _ h => h)
  have hx3 := hfw.at hx1 (fun h => h)
  have hs1 := hf1.size
  have hn3 : ∀ k, v3.ownBlock = some k → w1.heap.size ≤ k := by
    intro k hk
    rcases hv3 with h | h
    · rw [h] at hk; simp [Value.ownBlock] at hk
    · rw [h] at hk; simp at hk; omega
  clear hf3 hv3 c0 c1 d0 d1 q1 hf1 hfw hq1 hw1
  have c3 := blk_cell hq3.blk 0
  simp at c3
  have hwr : IntKind.i64.wrap ((k : Int) + 1) = (k : Int) + 1 := by rw [IntKind.wrap_i64]; omega
  have hp0 : (0 : Int) ≤ (k : Int) + 1 := by omega
  have hp1 : (k : Int) + 1 ≤ (E.length : Int) := by omega
  have hp2 : ((k : Int) + 1).toNat = k + 1 := by omega
  obtain ⟨A, hA, q2⟩ : ∃ A, (if cap = k + 1 then some (⟨g, off, none⟩ : Addr) else some ⟨g, off + (k + 1) * 2, none⟩) = A ∧ Hid (Rd w3 2 (.slice A (E.length - (k + 1)) (cap - (k + 1))) (E.length - (k + 1)) (ents (E.drop (k + 1)))) := by
    have := hq3.own.rd.drop (show k + 1 ≤ E.length by omega)
    rw [ents_drop] at this
    exact ⟨_, rfl, Lib.hid this⟩
  go_wp2_with (at_builtin; refine wpList_append_sl_rd rfl (.tmp 22) (.tmp 29) 44 rfl 64 i0 (.agg #[.int .i64 0, .int .i64 0]) 2 16 Try.underlying44 hinf hz0 hz1 hz2 rfl (by decide) v3 _ _ rfl hs3 _ (E.length - (k + 1)) (ents (E.drop (k + 1))) rfl q2.out (ents_one _) (by unfold maxLen; omega) (by omega) ?nx2)
  case nx2 =>
  intro v5 w5 hs5 hf6 hv5
  have hf7 : Fr (fun _ => False) w w5 := hf4.trans' hf6 (fun i hi => Or.inr (by have := hn3 i hi; omega))
  have hq5 := hq3.keep hf6 (fun i hi hF => by have h1 := hn3 i hF; have h2 := hq.lt i hi; omega)
  have hx5 := hf6.at hx3 (fun h => by have := hn3 X h; have := blk_lt hx1; omega)
  have hn5 : ∀ k, v5.ownBlock = some k → w.heap.size ≤ k := by
    intro k hk
    rcases hv5 with h | h
    · have := hn3 k (h ▸ hk); omega
    · rw [h] at hk; simp at hk; have := hf4.size; omega
  have HN := Lib.hid (show (cutE E k).length = E.length - 1 by unfold cutE; simp; omega)
  have hs6 : Sl w5 64 2 v5 (E.length - 1) (ents (cutE E k)) := by
    rw [show E.length - 1 = k + (E.length - (k + 1)) by omega]
    unfold cutE
    rw [ents_app]
    exact hs5
  obtain ⟨ao5, cap5, rfl, _, _⟩ := hs6.shape
  have c1' := blk_cell hq5.blk 0
  have f1' := blk_free hq5.blk 0
  simp at c1'
  have hne := hs6.ne hq5.blk (by decide)
  have hq6 : Rq (w5.setCell ⟨q, 0, none⟩ (.slice ao5 (E.length - 1) cap5)) q (.slice ao5 (E.length - 1) cap5) (cutE E k) c :=
    ⟨by rw [blk_set hq5.blk]; rfl, by rw [HN.out]; exact hs6.set_other (a := ⟨q, 0, none⟩) _ hne⟩
  have x0 := blk_cell (show (w5.setCell ⟨q, 0, none⟩ (.slice ao5 (E.length - 1) cap5)).heap[X]? = _ by rw [blk_set_other _ (by show X ≠ q; omega)]; exact hx5) 0
  simp at x0
  clear hs5 hf6 hv5 hs3 hf4 hn3 c3 hwr hp0 hp1 hp2 hA q2 hq3 hq5 hx3 hx5 hx1 hs6 hne
  go_wp2_with fail
  go_ret
  refine ⟨rfl, _, hq6, (hf7.mono (fun _ h => h.elim)).setCell (p := ⟨q, 0, none⟩) (Or.inl (Or.inl rfl)) _, fun i hi => ?_⟩
  rcases hi with rfl | hi
  · exact .inl (.inl rfl)
  · exact .inr (hn5 i hi)

/-- What the document's Add answers. -/
def raddSays (E : List (Int × Int)) (pid pr : Int) : Int × List (Int × Int) :=
  if pid < 1 ∨ 1099511627776 < pid ∨ pr < 1 ∨ 4 < pr then (1, E)
  else if 0 ≤ place (fun e => e.1 == pid) E then (6, E)
  else if 64 ≤ E.length then (8, E)
  else (0, E ++ [(pid, pr)])

set_option maxHeartbeats 1600000 in
theorem RAdd_any (q : Nat) (v : Value) (E : List (Int × Int)) (c pid pr : Int) (w : World) (hq : Rq w q v E c) (hl : E.length ≤ 1000) :
    Calls Try.prog 26 #[.pointer (some ⟨q, 0, none⟩), .int .i64 pid, .int .i64 pr] w fun e w' => e = .returned (.int .i64 (raddSays E pid pr).1) ∧ RPost q v (raddSays E pid pr).2 c w w' := by
  have hsame := hq.same (Below.refl _ _)
  unfold raddSays
  by_cases h : pid < 1 ∨ 1099511627776 < pid ∨ pr < 1 ∨ 4 < pr
  · rw [if_pos h]
    by_cases h1 : pid < 1
    · go_enter Try.func26, Try.ntmps26
      go_wp2
      go_ret
      exact ⟨rfl, hsame⟩
    by_cases h2 : 1099511627776 < pid
    · go_enter Try.func26, Try.ntmps26
      go_wp2
      go_ret
      exact ⟨rfl, hsame⟩
    by_cases h3 : pr < 1
    · go_enter Try.func26, Try.ntmps26
      go_wp2
      go_ret
      exact ⟨rfl, hsame⟩
    · have h4 : 4 < pr := by omega
      go_enter Try.func26, Try.ntmps26
      go_wp2
      go_ret
      exact ⟨rfl, hsame⟩
  rw [if_neg h]
  obtain ⟨h1, h2, h3, h4⟩ : 1 ≤ pid ∧ pid ≤ 1099511627776 ∧ 1 ≤ pr ∧ pr ≤ 4 := by omega
  clear h
  obtain ⟨i0, hinf, hz0, hz1, hz2⟩ := info_parts Try.info64
  obtain ⟨ao, cap, rfl, hcap, hmax⟩ := hq.own.shape
  have c0 := blk_cell hq.blk 0
  simp at c0
  unfold maxLen at hmax
  have hne := hq.own.ne hq.blk (by decide)
  obtain ⟨pl, hpl⟩ : ∃ pl, place (fun e => e.1 == pid) E = pl := ⟨_, rfl⟩
  rw [hpl]
  have HP := Lib.hid hpl
  clear hpl
  by_cases hp : 0 ≤ pl
  · rw [if_pos hp]
    go_enter Try.func26, Try.ntmps26
    go_wp2_with fail
    refine (RAt_any q _ E c pid _ hq).mono ?_
    rintro e w1 ⟨rfl, rfl⟩
    rw [HP.out]
    go_wp2_with fail
    go_ret
    exact ⟨rfl, hsame⟩
  rw [if_neg hp]
  by_cases hf : 64 ≤ E.length
  · rw [if_pos hf]
    go_enter Try.func26, Try.ntmps26
    go_wp2_with fail
    refine (RAt_any q _ E c pid _ hq).mono ?_
    rintro e w1 ⟨rfl, rfl⟩
    rw [HP.out]
    go_wp2_with fail
    go_ret
    exact ⟨rfl, hsame⟩
  rw [if_neg hf]
  clear hsame
  go_enter Try.func26, Try.ntmps26
  go_wp2_with fail
  refine (RAt_any q _ E c pid _ hq).mono ?_
  rintro e w1 ⟨rfl, rfl⟩
  rw [HP.out]
  go_wp2_with (at_builtin; go_loud (refine wpList_append_sl rfl (.tmp 35) (.tmp 39) 44 rfl 64 i0 (.agg #[.int .i64 0, .int .i64 0]) 2 16 Try.underlying44 hinf hz0 hz1 hz2 rfl (by decide) (.slice ao E.length cap) E.length (ents E) rfl (hq.own.alloc _) ⟨w1.heap.size, 0, none⟩ 1 1 [.int .i64 pid, .int .i64 pr] rfl rfl ?cc1 ?cc2 ?b1 ?b2 ?next))
  case cc1 =>
    intro j u hj
    have hb := heap_alloc_new w1 (.cells #[.int .i64 pid, .int .i64 pr] 64)
    have hc := blk_cell hb j
    rw [Addr.add_lit, Nat.zero_add, hc]
    simpa using hj
  case cc2 => exact ents_one [(pid, pr)]
  case b1 => unfold maxLen; omega
  case b2 => omega
  case next =>
    intro v' w2 hown hgrow hv
    have hfr1 : Fr (rf q (.slice ao E.length cap)) w1 w2 := ((Fr.refl _ w1).alloc _).trans (hgrow.mono fun k hk => Or.inr hk)
    have hblk1 := hgrow.at (blk_alloc (o' := .cells #[.int .i64 pid, .int .i64 pr] 64) hq.blk) (fun e => hne q e rfl)
    clear c0
    have c1' := blk_cell hblk1 0
    have f1' := blk_free hblk1 0
    simp at c1'
    obtain ⟨ao', cap', rfl, _, _⟩ := hown.shape
    have HA := Lib.hid (show ents E ++ [.int .i64 pid, .int .i64 pr] = ents (E ++ [(pid, pr)]) by rw [ents_app]; rfl)
    go_wp2
    go_ret
    refine ⟨rfl, _, ⟨by rw [blk_set hblk1]; rfl, ?_⟩, hfr1.setCell (Or.inl (Or.inl rfl)) _, ?_⟩
    · rw [← HA.out]; simpa using hown.set_other (a := ⟨q, 0, none⟩) _ (hown.ne hblk1 (by decide))
    · rintro k (h | h)
      · exact .inl (.inl h)
      · rcases hv with hv | hv
        · exact .inl (.inr (hv ▸ h))
        · rw [hv] at h; simp at h; exact .inr (by omega)

theorem RDrop_no (q : Nat) (v : Value) (E : List (Int × Int)) (c pid : Int) (w : World) (hq : Rq w q v E c) (hn : ∀ e ∈ E, (fun e : Int × Int => e.1 == pid) e = false) :
    Calls Try.prog 27 #[.pointer (some ⟨q, 0, none⟩), .int .i64 pid] w fun e w' => e = .returned (.int .i64 250) ∧ w' = w := by
  have HP := Lib.hid (place_none hn)
  clear hn
  go_enter Try.func27, Try.ntmps27
  go_wp2_with fail
  refine (RAt_any q _ E c pid _ hq).mono ?_
  rintro e w1 ⟨rfl, rfl⟩
  rw [HP.out]
  go_wp2_with fail
  go_ret
  exact ⟨rfl, rfl⟩

theorem RDrop_yes (q : Nat) (v : Value) (E : List (Int × Int)) (c pid : Int) (w : World) (hq : Rq w q v E c) (hl : E.length ≤ 1000) (k : Nat) (b : Int) (hk : E[k]? = some (pid, b)) (hn : ∀ e ∈ E.take k, (fun e : Int × Int => e.1 == pid) e = false) :
    Calls Try.prog 27 #[.pointer (some ⟨q, 0, none⟩), .int .i64 pid] w fun e w' => e = .returned (.int .i64 0) ∧ RPost q v (cutE E k) c w w' := by
  have HP := Lib.hid (place_some hk (by simp) hn)
  have HK := Lib.hid hk
  clear hn hk
  go_enter Try.func27, Try.ntmps27
  go_wp2_with fail
  refine (RAt_any q _ E c pid _ hq).mono ?_
  rintro e w1 ⟨rfl, rfl⟩
  rw [HP.out]
  go_wp2_with fail
  refine (ROut_any q _ E c k pid b _ hq HK.out hl).mono ?_
  rintro e w2 ⟨rfl, hp⟩
  go_wp2_with fail
  go_ret
  exact ⟨rfl, hp⟩

theorem RNext_none (q : Nat) (v : Value) (E : List (Int × Int)) (c : Int) (w : World) (hq : Rq w q v E c) (hr : rturn E c = -1) :
    Calls Try.prog 28 #[.pointer (some ⟨q, 0, none⟩)] w fun e w' => e = .returned (.tuple #[.int .i64 0, .int .i64 5]) ∧ w' = w := by
  have HR := Lib.hid hr
  clear hr
  go_enter Try.func28, Try.ntmps28
  go_wp2_with fail
  refine (RTurn_any q _ E c _ hq).mono ?_
  rintro e w1 ⟨rfl, rfl⟩
  rw [HR.out]
  go_wp2_with fail
  go_ret2
  exact ⟨rfl, rfl⟩

set_option maxHeartbeats 1600000 in
theorem RNext_some (q : Nat) (v : Value) (E : List (Int × Int)) (c : Int) (w : World) (hq : Rq w q v E c) (hl : E.length ≤ 1000) (i : Nat) (x k : Int) (hr : rturn E c = i) (hk : E[i]? = some (x, k)) (c0 : 0 ≤ c) (c1 : c ≤ 1152921504606846976) :
    Calls Try.prog 28 #[.pointer (some ⟨q, 0, none⟩)] w fun e w' => e = .returned (.tuple #[.int .i64 x, .int .i64 0]) ∧ RPost q v (cutE E i) (rcount k c) w w' := by
  have hil : i < E.length := (List.getElem?_eq_some_iff.1 hk).1
  obtain ⟨g, off, cap, cur, rfl, hcap, hmax, hg, hfit, htake⟩ := hq.own.blk (by omega)
  unfold maxLen at hmax
  have b0 := blk_cell hq.blk 0
  have b1 := blk_cell hq.blk 1
  have f1 := blk_free hq.blk 1
  have d1 := hq.own.cell (i * 2 + 1) (by omega)
  rw [(ents_at E i x k hk).2, ← Nat.add_assoc] at d1
  simp at b0 b1
  have hne := hq.own.ne hq.blk (by decide)
  have HR := Lib.hid hr
  have HK := Lib.hid hk
  clear hr hk hg htake
  have hset : ∀ u, Rq (w.setCell ⟨q, 1, none⟩ (.int .i64 u)) q (.slice (some ⟨g, off, none⟩) E.length cap) E u := fun u =>
    ⟨by rw [blk_set hq.blk]; rfl, hq.own.set_other (a := ⟨q, 1, none⟩) _ hne⟩
  have HS := Lib.hid hset
  clear hset hne
  go_enter Try.func28, Try.ntmps28
  go_wp2_with fail
  refine (RTurn_any q _ E c _ hq).mono ?_
  rintro e w1 ⟨rfl, rfl⟩
  rw [HR.out]
  by_cases k2 : k = 2
  · subst k2
    go_wp2_with fail
    refine (ROut_any q _ E _ i x 2 _ (HS.out (c + 1)) HK.out hl).mono ?_
    rintro e w2 ⟨rfl, hp⟩
    go_wp2_with fail
    go_ret2
    exact ⟨rfl, RPost.trans ((Fr.refl _ _).setCell (Or.inl (Or.inl rfl)) _) (fun _ h => .inl h) hp⟩
  · by_cases k1 : k = 1
    · subst k1
      go_wp2_with fail
      refine (ROut_any q _ E _ i x 1 _ (HS.out 0) HK.out hl).mono ?_
      rintro e w2 ⟨rfl, hp⟩
      go_wp2_with fail
      go_ret2
      exact ⟨rfl, RPost.trans ((Fr.refl _ _).setCell (Or.inl (Or.inl rfl)) _) (fun _ h => .inl h) hp⟩
    · go_wp2_with fail
      refine (ROut_any q _ E _ i x k _ hq HK.out hl).mono ?_
      rintro e w2 ⟨rfl, hp⟩
      go_wp2_with fail
      go_ret2
      exact ⟨rfl, by rw [show rcount k c = c by unfold rcount; rw [if_neg k2, if_neg k1]]; exact hp⟩
end Go.Proofs.Ytjdinopiipmojaa
