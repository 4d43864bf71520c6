/- The document's marked mailbox: out, Mark, Use, Next. -/
import Derived.Test.YtgijaehmffojhaaRef
namespace Go.Proofs.Ytgijaehmffojhaa
open Go.RowKit

def cutA {α : Type} (E : List α) (k : Nat) : List α := E.take k ++ E.drop (k + 1)

set_option maxHeartbeats 1600000 in
set_option maxRecDepth 100000 in
theorem ROut_any (q : Nat) (lv mv : Value) (R : Rx) (k : Nat) (w : World) (h : Rb w q lv mv R) (hk : k < R.ms.length) (hl : R.ms.length ≤ 1000) :
    Calls Try.prog 47 #[.pointer (some ⟨q, 0, none⟩), .int .i64 k] w fun e w' => e = .returned (.tuple #[]) ∧ RPost q lv mv { R with ms := cutA R.ms k } w w' := by
  obtain ⟨i0, hinf, hz0, hz1, hz2⟩ := info_parts Try.info80
  obtain ⟨g, off, cap, cur, rfl, hcap, hmax, _, _, _⟩ := h.om.blk (by omega)
  have c0 := blk_cell h.blk 6
  simp at c0
  unfold maxLen at hmax
  have q1 : Rd w 2 (.slice (some ⟨g, off, none⟩) k cap) k (prs .i64 (R.ms.take k)) := by
    have := h.om.rd.take (show k ≤ R.ms.length by omega)
    rwa [prs_take] at this
  have hkc : (k : Int) ≤ cap := by omega
  go_enter Try.func47, Try.ntmps47
  go_wp2_with (at_builtin; refine wpList_append_sl_rd rfl (.tmp 5) (.tmp 11) 40 rfl 80 i0 (.agg #[.int .i64 0, .int .i64 0]) 2 16 Try.underlying40 hinf hz0 hz1 hz2 rfl (by decide) (.slice none 0 0) 0 [] rfl (Sl.nil _ _ _) _ k (prs .i64 (R.ms.take k)) rfl q1 (prs_one _) (by unfold maxLen; omega) (by omega) ?nx)
  case nx =>
  intro v3 w3 hs3 hf3 hv3
  have hf4 : Fr (fun _ => False) w w3 := hf3.mono (by simp [Value.ownBlock])
  have h3 := h.keep hf4 (fun _ _ h => h)
  have hn3 : ∀ k, v3.ownBlock = some k → w.heap.size ≤ k := by
    intro k hk
    rcases hv3 with h | h
    · rw [h] at hk; simp [Value.ownBlock] at hk
    · rw [h] at hk; simp at hk; omega
  clear hf3 hv3 c0 q1
  have c3 := blk_cell h3.blk 6
  simp at c3
  have hwr : IntKind.i64.wrap ((k : Int) + 1) = (k : Int) + 1 := by rw [IntKind.wrap_i64]; omega
  have hp0 : (0 : Int) ≤ (k : Int) + 1 := by omega
  have hp1 : (k : Int) + 1 ≤ (R.ms.length : Int) := by omega
  have hp2 : ((k : Int) + 1).toNat = k + 1 := by omega
  obtain ⟨A, hA, q2⟩ : ∃ A, (if cap = k + 1 then some (⟨g, off, none⟩ : Addr) else some ⟨g, off + (k + 1) * 2, none⟩) = A ∧ Hid (Rd w3 2 (.slice A (R.ms.length - (k + 1)) (cap - (k + 1))) (R.ms.length - (k + 1)) (prs .i64 (R.ms.drop (k + 1)))) := by
    have := h3.om.rd.drop (show k + 1 ≤ R.ms.length by omega)
    rw [prs_drop] at this
    exact ⟨_, rfl, Lib.hid this⟩
  go_wp2_with (at_builtin; refine wpList_append_sl_rd rfl (.tmp 13) (.tmp 20) 40 rfl 80 i0 (.agg #[.int .i64 0, .int .i64 0]) 2 16 Try.underlying40 hinf hz0 hz1 hz2 rfl (by decide) v3 _ _ rfl hs3 _ (R.ms.length - (k + 1)) (prs .i64 (R.ms.drop (k + 1))) rfl q2.out (prs_one _) (by unfold maxLen; omega) (by omega) ?nx2)
  case nx2 =>
  intro v5 w5 hs5 hf6 hv5
  have hf7 : Fr (fun _ => False) w w5 := hf4.trans' hf6 (fun i hi => Or.inr (hn3 i hi))
  have h5 := h.keep hf7 (fun _ _ h => h)
  have hn5 : ∀ k, v5.ownBlock = some k → w.heap.size ≤ k := by
    intro k hk
    rcases hv5 with h | h
    · exact hn3 k (h ▸ hk)
    · rw [h] at hk; simp at hk; have := hf4.size; omega
  have hlen : (cutA R.ms k).length = k + (R.ms.length - (k + 1)) := by unfold cutA; simp; omega
  have hs6 : Sl w5 80 2 v5 (cutA R.ms k).length (prs .i64 (cutA R.ms k)) := by
    rw [hlen]
    unfold cutA
    rw [prs_app]
    simpa using hs5
  have hpost : RPost q lv (.slice (some ⟨g, off, none⟩) R.ms.length cap) { R with ms := cutA R.ms k } w (w5.setCell ⟨q, 6, none⟩ v5) := h.put_ms (hf7.mono fun _ h => h.elim) hs6 (.inr hn5)
  have c1' := blk_cell h5.blk 6
  have f1' := blk_free h5.blk 6
  simp at c1'
  obtain ⟨ao5, cap5, hv6, _, _⟩ := hs6.shape
  subst hv6
  have HP := Lib.hid hpost
  clear hs5 hf6 hv5 hs3 hf4 hn3 c3 hwr hp0 hp1 hp2 hA q2 h3 hs6 hpost hf7 h5 hn5
  generalize (cutA R.ms k).length = n5 at HP ⊢
  go_wp2_with fail
  go_end0
  exact ⟨rfl, HP.out⟩

theorem RMark_arg (q : Nat) (lv mv : Value) (R : Rx) (ref : Int) (w : World) (h : Rb w q lv mv R) (hr : ref < 1 ∨ 281474976710656 < ref) :
    Calls Try.prog 19 #[.pointer (some ⟨q, 0, none⟩), .int .i64 ref] w fun e w' => e = .returned (.int .i64 1) ∧ RPost q lv mv R w w' := by
  have hsame := h.same (Below.refl _ _)
  by_cases h1 : ref < 1
  · go_enter Try.func19, Try.ntmps19
    go_wp2
    go_ret
    exact ⟨rfl, hsame⟩
  · have h2 : 281474976710656 < ref := by omega
    go_enter Try.func19, Try.ntmps19
    go_wp2
    go_ret
    exact ⟨rfl, hsame⟩

theorem RMark_twice (q : Nat) (lv mv : Value) (R : Rx) (ref : Int) (w : World) (h : Rb w q lv mv R) (h1 : 1 ≤ ref) (h2 : ref ≤ 281474976710656) (hl : R.ms.length ≤ 1000) (hp : 0 ≤ place (·.1) ref R.ms) :
    Calls Try.prog 19 #[.pointer (some ⟨q, 0, none⟩), .int .i64 ref] w fun e w' => e = .returned (.int .i64 6) ∧ RPost q lv mv R w w' := by
  obtain ⟨pl, hpl⟩ : ∃ pl, place (·.1) ref R.ms = pl := ⟨_, rfl⟩
  rw [hpl] at hp
  have HP := Lib.hid hpl
  clear hpl
  go_enter Try.func19, Try.ntmps19
  go_wp2_with fail
  refine (RFind_any q lv mv R ref _ h hl).mono ?_
  rintro e w1 ⟨rfl, hb⟩
  rw [HP.out]
  go_wp2_with fail
  go_ret
  exact ⟨rfl, h.same hb⟩

def Rx.marked (R : Rx) (ref : Int) : Rx := if R.ms.length < 64 then R.mark ref else { R with ms := cutA (R.ms ++ [(ref, R.came)]) 0 }

set_option maxHeartbeats 3200000 in
set_option maxRecDepth 100000 in
theorem RMark_new (q : Nat) (lv mv : Value) (R : Rx) (ref : Int) (w : World) (h : Rb w q lv mv R) (h1 : 1 ≤ ref) (h2 : ref ≤ 281474976710656) (hl : R.ms.length ≤ 900) (hp : place (·.1) ref R.ms = -1) :
    Calls Try.prog 19 #[.pointer (some ⟨q, 0, none⟩), .int .i64 ref] w fun e w' => e = .returned (.int .i64 0) ∧ RPost q lv mv (R.marked ref) w w' := by
  obtain ⟨i0, hinf, hz0, hz1, hz2⟩ := info_parts Try.info80
  obtain ⟨ao, cap, rfl, hcap, hmax⟩ := h.om.shape
  unfold maxLen at hmax
  have HP := Lib.hid hp
  clear hp
  obtain ⟨mm, hmm⟩ : ∃ mm, R.ms.length = mm := ⟨_, rfl⟩
  rw [hmm] at h hl hcap ⊢
  have HM := Lib.hid hmm
  clear hmm
  go_enter Try.func19, Try.ntmps19
  go_wp2_with fail
  refine (RFind_any q lv _ R ref _ h (by have := HM.out; omega)).mono ?_
  rintro e w1 ⟨rfl, hb⟩
  rw [HP.out]
  have hs := h.keep (bel_fr0 hb) (fun _ _ h => h)
  go_upto_region 5 with fail
  have hT : w1.drew.cell? ⟨q, 2, none⟩ = some (.int .i64 R.came) := by
    have := blk_cell hs.blk 2
    simpa using this
  have h2 : Rb w1.drew q lv (.slice ao mm cap) R := hs.keep ((Fr.refl (fun _ => False) w1).drew) (fun _ _ h => h)
  have hf2 : Fr (fun _ => False) w1 w1.drew := (Fr.refl _ w1).drew
  clear hs
  refine wp_region_ord (Ord.take 0 (.take 1 (.take 2 (.take 3 (.take 5 (.take 6 (.take 7 (.take 8 (.take 9 (.take 10 (.fork 4 11 (.alone 11 (.alone 12 (.take 13 (.take 14 (.alone 15 .done))))) (.alone 4 (.alone 12 (.take 13 (.take 14 (.alone 15 .done))))))))))))))))
    (fun W => W.cell? ⟨q, 2, none⟩ = some (.int .i64 R.came)) (by kernel_rfl) (by kernel_rfl) (by kernel_rfl) (fun c a d v w h => by cases d <;> exact h) hT ?_
  generalize w1.drew = w2 at hT h2 hf2 ⊢
  have c7 := blk_cell h2.blk 6
  simp at c7
  have h3 : Rb (w2.alloc (.cells #[.int .i64 ref, .int .i64 R.came] 80)) q lv (.slice ao mm cap) R := h2.keep ((Fr.refl (fun _ => False) w2).alloc _) (fun _ _ h => h)
  have c7' := blk_cell h3.blk 6
  have hT' := blk_cell h3.blk 2
  simp at c7' hT'
  refine ord_take (o := ⟨some 15, _, _, _, _, none⟩) _ rfl (by rfl) (fun W hW => by (go_simp; with_reducible rfl)) ?_
  simp only [Act.put, List.setIfInBounds_toArray, List.set_cons_zero, List.set_cons_succ]
  refine ord_take (o := ⟨some 16, _, _, _, _, none⟩) _ rfl (by rfl) (fun W hW => by (go_simp; with_reducible rfl)) ?_
  simp only [Act.put, List.setIfInBounds_toArray, List.set_cons_zero, List.set_cons_succ]
  refine ord_take (o := ⟨some 17, _, _, _, _, none⟩) _ rfl (by rfl) (fun W hW => by (go_simp; with_reducible rfl)) ?_
  simp only [Act.put, List.setIfInBounds_toArray, List.set_cons_zero, List.set_cons_succ]
  refine ord_take (o := ⟨some 18, _, _, _, _, none⟩) _ rfl (by rfl) (fun W hW => by (go_simp; with_reducible rfl)) ?_
  simp only [Act.put, List.setIfInBounds_toArray, List.set_cons_zero, List.set_cons_succ]
  refine ord_take (o := ⟨some 20, _, _, _, _, none⟩) _ rfl (by rfl) (fun W hW => by (go_simp; with_reducible rfl)) ?_
  simp only [Act.put, List.setIfInBounds_toArray, List.set_cons_zero, List.set_cons_succ]
  refine ord_take (o := ⟨some 21, _, _, _, _, none⟩) _ rfl (by rfl) (fun W hW => by (go_simp; with_reducible rfl)) ?_
  simp only [Act.put, List.setIfInBounds_toArray, List.set_cons_zero, List.set_cons_succ]
  refine ord_take (o := ⟨some 22, _, _, _, _, none⟩) _ rfl (by rfl) (fun W hW => by (go_simp; with_reducible rfl)) ?_
  simp only [Act.put, List.setIfInBounds_toArray, List.set_cons_zero, List.set_cons_succ]
  refine ord_take (o := ⟨some 23, _, _, _, _, none⟩) _ rfl (by rfl) (fun W hW => by (go_simp; with_reducible rfl)) ?_
  simp only [Act.put, List.setIfInBounds_toArray, List.set_cons_zero, List.set_cons_succ]
  refine ord_take (o := ⟨some 24, _, _, _, _, none⟩) _ rfl (by rfl) (fun W hW => by (go_simp; with_reducible rfl)) ?_
  simp only [Act.put, List.setIfInBounds_toArray, List.set_cons_zero, List.set_cons_succ]
  refine ord_take (o := ⟨some 25, _, _, _, _, none⟩) _ rfl (by rfl) (fun W hW => by (go_simp; with_reducible rfl)) ?_
  simp only [Act.put, List.setIfInBounds_toArray, List.set_cons_zero, List.set_cons_succ]
  refine ord_fork (oi := ⟨some 19, _, _, _, _, none⟩) (oj := ⟨some 26, _, _, _, _, none⟩) rfl rfl (by rfl) (by rfl) (fun K hK => ?_) (fun K hK => ?_)
  · go_simp
    refine hK _ _ hT ?_
    clear hK K
    refine ord_alone (o := ⟨some 26, _, _, _, _, none⟩) rfl (by rfl) (fun K hK => ?_)
    go_simp
    refine hK _ _ hT' ?_
    clear hK K
    refine ord_alone (o := ⟨some 27, _, _, _, _, none⟩) rfl (by rfl) (fun K hK => ?_)
    refine wp_append_sl (.tmp 19) (.tmp 26) 40 rfl 80 i0 (.agg #[.int .i64 0, .int .i64 0]) 2 16 Try.underlying40 hinf hz0 hz1 hz2 rfl (by decide) (.slice ao mm cap) mm (prs .i64 R.ms) rfl (HM.out ▸ h3.om) ⟨w2.heap.size, 0, none⟩ 1 1 [.int .i64 ref, .int .i64 R.came] rfl rfl ?_ ?_ (by unfold maxLen; omega) (by omega) ?_
    · intro j u hj
      have hb := heap_alloc_new w2 (.cells #[.int .i64 ref, .int .i64 R.came] 80)
      have hc := blk_cell hb j
      rw [Addr.add_lit, Nat.zero_add, hc]
      simpa using hj
    · exact prs_one (k := .i64) [(ref, R.came)]
    intro v' w3 hs3 hf3 hv3
    have hT3 := hf3.at h3.blk (fun e => h3.nem _ e rfl)
    have hT4 := blk_cell hT3 2
    have f7 := blk_free hT3 6
    have c73 := blk_cell hT3 6
    simp at hT4 c73
    obtain ⟨ao', cap', rfl, _, _⟩ := hs3.shape
    have hpost := h3.put_ms hf3 (ms := R.ms ++ [(ref, R.came)]) (mv' := .slice ao' (mm + 1) cap') (by rw [prs_app, List.length_append, HM.out]; exact hs3) (hv3.imp id (fun e b hb => by rw [e] at hb; cases hb; exact Nat.le_refl _))
    have hT5 : (w3.setCell ⟨q, 6, none⟩ (.slice ao' (mm + 1) cap')).cell? ⟨q, 2, none⟩ = some (.int .i64 R.came) := by
      have := blk_cell (blk_set hT3 6 (.slice ao' (mm + 1) cap')) 2
      simpa using this
    have HQ := Lib.hid hpost
    clear hs3 hf3 hv3 hpost c7 hT h2 c7' h3
    refine hK _ _ hT4 ?_
    clear hK K
    simp only [Act.put, List.setIfInBounds_toArray, List.set_cons_zero, List.set_cons_succ]
    refine ord_take (o := ⟨some 28, _, _, _, _, none⟩) _ rfl (by rfl) (fun W hW => by (go_simp; with_reducible rfl)) ?_
    simp only [Act.put, List.setIfInBounds_toArray, List.set_cons_zero, List.set_cons_succ]
    refine ord_take (o := ⟨some 29, _, _, _, _, none⟩) _ rfl (by rfl) (fun W hW => by (go_simp; with_reducible rfl)) ?_
    simp only [Act.put, List.setIfInBounds_toArray, List.set_cons_zero, List.set_cons_succ]
    refine ord_alone (o := ⟨none, _, _, _, _, none⟩) rfl (by rfl) (fun K hK => ?_)
    go_simp
    refine hK _ _ hT5 ?_
    clear hK K
    refine ord_done ?_
    have hq : Hid (RPost q lv (.slice ao mm cap) (R.mark ref) w (w3.setCell ⟨q, 6, none⟩ (.slice ao' (mm + 1) cap'))) := (HQ.out.from (hf2.alloc _) (fun _ h => h.elim)).from (bel_fr0 hb) (fun _ h => h.elim)
    obtain ⟨lv4, mv4, hb4, hf4, hg4⟩ := hq.out
    have hlen4 : (R.mark ref).ms.length = mm + 1 := by show (R.ms ++ [_]).length = _; rw [List.length_append, HM.out]; rfl
    have HL4 := Lib.hid hlen4
    have cc := blk_set hT3 6 (.slice ao' (mm + 1) cap')
    have cc6 := blk_cell cc 6
    simp at cc6
    clear hT3 cc f7 c73 hT4 hT5 hlen4
    generalize w3.setCell ⟨q, 6, none⟩ (.slice ao' (mm + 1) cap') = w4 at hb4 hf4 hg4 hq cc6 ⊢
    by_cases hlt : mm < 64
    · go_wp2_with fail
      go_ret
      exact ⟨rfl, by unfold Rx.marked; rw [if_pos (by have := HM.out; omega)]; exact hq.out⟩
    · go_wp2_with fail
      refine (ROut_any q lv4 mv4 (R.mark ref) 0 _ hb4 (by have := HL4.out; omega) (by have := HL4.out; omega)).mono ?_
      rintro e w5 ⟨rfl, hp5⟩
      go_wp2_with fail
      go_ret
      refine ⟨rfl, ?_⟩
      unfold Rx.marked
      rw [if_neg (by have := HM.out; omega)]
      obtain ⟨l5, m5, hb5, hf5, hg5⟩ := hp5
      refine ⟨l5, m5, hb5, hf4.trans' hf5 hg4, fun k hk => ?_⟩
      rcases hg5 k hk with x | x
      · exact hg4 k x
      · exact .inr (Nat.le_trans hf4.size x)
  · go_simp
    refine hK _ _ hT' ?_
    clear hK K
    refine ord_alone (o := ⟨some 19, _, _, _, _, none⟩) rfl (by rfl) (fun K hK => ?_)
    go_simp
    refine hK _ _ hT' ?_
    clear hK K
    refine ord_alone (o := ⟨some 27, _, _, _, _, none⟩) rfl (by rfl) (fun K hK => ?_)
    refine wp_append_sl (.tmp 19) (.tmp 26) 40 rfl 80 i0 (.agg #[.int .i64 0, .int .i64 0]) 2 16 Try.underlying40 hinf hz0 hz1 hz2 rfl (by decide) (.slice ao mm cap) mm (prs .i64 R.ms) rfl (HM.out ▸ h3.om) ⟨w2.heap.size, 0, none⟩ 1 1 [.int .i64 ref, .int .i64 R.came] rfl rfl ?_ ?_ (by unfold maxLen; omega) (by omega) ?_
    · intro j u hj
      have hb := heap_alloc_new w2 (.cells #[.int .i64 ref, .int .i64 R.came] 80)
      have hc := blk_cell hb j
      rw [Addr.add_lit, Nat.zero_add, hc]
      simpa using hj
    · exact prs_one (k := .i64) [(ref, R.came)]
    intro v' w3 hs3 hf3 hv3
    have hT3 := hf3.at h3.blk (fun e => h3.nem _ e rfl)
    have hT4 := blk_cell hT3 2
    have f7 := blk_free hT3 6
    have c73 := blk_cell hT3 6
    simp at hT4 c73
    obtain ⟨ao', cap', rfl, _, _⟩ := hs3.shape
    have hpost := h3.put_ms hf3 (ms := R.ms ++ [(ref, R.came)]) (mv' := .slice ao' (mm + 1) cap') (by rw [prs_app, List.length_append, HM.out]; exact hs3) (hv3.imp id (fun e b hb => by rw [e] at hb; cases hb; exact Nat.le_refl _))
    have hT5 : (w3.setCell ⟨q, 6, none⟩ (.slice ao' (mm + 1) cap')).cell? ⟨q, 2, none⟩ = some (.int .i64 R.came) := by
      have := blk_cell (blk_set hT3 6 (.slice ao' (mm + 1) cap')) 2
      simpa using this
    have HQ := Lib.hid hpost
    clear hs3 hf3 hv3 hpost c7 hT h2 c7' h3
    refine hK _ _ hT4 ?_
    clear hK K
    simp only [Act.put, List.setIfInBounds_toArray, List.set_cons_zero, List.set_cons_succ]
    refine ord_take (o := ⟨some 28, _, _, _, _, none⟩) _ rfl (by rfl) (fun W hW => by (go_simp; with_reducible rfl)) ?_
    simp only [Act.put, List.setIfInBounds_toArray, List.set_cons_zero, List.set_cons_succ]
    refine ord_take (o := ⟨some 29, _, _, _, _, none⟩) _ rfl (by rfl) (fun W hW => by (go_simp; with_reducible rfl)) ?_
    simp only [Act.put, List.setIfInBounds_toArray, List.set_cons_zero, List.set_cons_succ]
    refine ord_alone (o := ⟨none, _, _, _, _, none⟩) rfl (by rfl) (fun K hK => ?_)
    go_simp
    refine hK _ _ hT5 ?_
    clear hK K
    refine ord_done ?_
    have hq : Hid (RPost q lv (.slice ao mm cap) (R.mark ref) w (w3.setCell ⟨q, 6, none⟩ (.slice ao' (mm + 1) cap'))) := (HQ.out.from (hf2.alloc _) (fun _ h => h.elim)).from (bel_fr0 hb) (fun _ h => h.elim)
    obtain ⟨lv4, mv4, hb4, hf4, hg4⟩ := hq.out
    have hlen4 : (R.mark ref).ms.length = mm + 1 := by show (R.ms ++ [_]).length = _; rw [List.length_append, HM.out]; rfl
    have HL4 := Lib.hid hlen4
    have cc := blk_set hT3 6 (.slice ao' (mm + 1) cap')
    have cc6 := blk_cell cc 6
    simp at cc6
    clear hT3 cc f7 c73 hT4 hT5 hlen4
    generalize w3.setCell ⟨q, 6, none⟩ (.slice ao' (mm + 1) cap') = w4 at hb4 hf4 hg4 hq cc6 ⊢
    by_cases hlt : mm < 64
    · go_wp2_with fail
      go_ret
      exact ⟨rfl, by unfold Rx.marked; rw [if_pos (by have := HM.out; omega)]; exact hq.out⟩
    · go_wp2_with fail
      refine (ROut_any q lv4 mv4 (R.mark ref) 0 _ hb4 (by have := HL4.out; omega) (by have := HL4.out; omega)).mono ?_
      rintro e w5 ⟨rfl, hp5⟩
      go_wp2_with fail
      go_ret
      refine ⟨rfl, ?_⟩
      unfold Rx.marked
      rw [if_neg (by have := HM.out; omega)]
      obtain ⟨l5, m5, hb5, hf5, hg5⟩ := hp5
      refine ⟨l5, m5, hb5, hf4.trans' hf5 hg4, fun k hk => ?_⟩
      rcases hg5 k hk with x | x
      · exact hg4 k x
      · exact .inr (Nat.le_trans hf4.size x)

def Rx.used (R : Rx) (c : Int) : Rx := { R with going := true, atn := c }

theorem RUse_none (q : Nat) (lv mv : Value) (R : Rx) (ref : Int) (w : World) (h : Rb w q lv mv R) (hl : R.ms.length ≤ 1000) (hp : place (·.1) ref R.ms = -1) :
    Calls Try.prog 21 #[.pointer (some ⟨q, 0, none⟩), .int .i64 ref] w fun e w' => e = .returned (.bool false) ∧ RPost q lv mv R w w' := by
  have HP := Lib.hid hp
  clear hp
  go_enter Try.func21, Try.ntmps21
  go_wp2_with fail
  refine (RFind_any q lv mv R ref _ h hl).mono ?_
  rintro e w1 ⟨rfl, hb⟩
  rw [HP.out]
  go_wp2_with fail
  go_ret
  exact ⟨rfl, h.same hb⟩

theorem RUse_on (q : Nat) (lv mv : Value) (R : Rx) (ref : Int) (w : World) (h : Rb w q lv mv R) (hl : R.ms.length ≤ 1000) (ho : R.going = true) (hp : 0 ≤ place (·.1) ref R.ms) :
    Calls Try.prog 21 #[.pointer (some ⟨q, 0, none⟩), .int .i64 ref] w fun e w' => e = .returned (.bool false) ∧ RPost q lv mv R w w' := by
  obtain ⟨pl, hpl⟩ : ∃ pl, place (·.1) ref R.ms = pl := ⟨_, rfl⟩
  rw [hpl] at hp
  have HP := Lib.hid hpl
  clear hpl
  go_enter Try.func21, Try.ntmps21
  go_wp2_with fail
  refine (RFind_any q lv mv R ref _ h hl).mono ?_
  rintro e w1 ⟨rfl, hb⟩
  rw [HP.out]
  have c5 := blk_cell (h.keep (bel_fr0 hb) (fun _ _ h => h)).blk 5
  simp at c5
  rw [ho] at c5
  go_wp2_with fail
  go_ret
  exact ⟨rfl, h.same hb⟩

set_option maxHeartbeats 800000 in
theorem RUse_some (q : Nat) (lv mv : Value) (R : Rx) (ref : Int) (w : World) (h : Rb w q lv mv R) (hl : R.ms.length ≤ 1000) (ho : R.going = false) (k : Nat) (r c : Int) (hp : place (·.1) ref R.ms = k) (hm : R.ms[k]? = some (r, c)) :
    Calls Try.prog 21 #[.pointer (some ⟨q, 0, none⟩), .int .i64 ref] w fun e w' => e = .returned (.bool true) ∧ RPost q lv mv (R.used c) w w' := by
  have hk := (List.getElem?_eq_some_iff.1 hm).1
  obtain ⟨g, off, cap, cur, rfl, hcap, hmax, _, _, _⟩ := h.om.blk (by omega)
  unfold maxLen at hmax
  have HP := Lib.hid hp
  have HM := Lib.hid hm
  clear hp hm
  go_enter Try.func21, Try.ntmps21
  go_wp2_with fail
  refine (RFind_any q lv _ R ref _ h hl).mono ?_
  rintro e w1 ⟨rfl, hb⟩
  rw [HP.out]
  have h1 := h.keep (bel_fr0 hb) (fun _ _ h => h)
  have c5 := blk_cell h1.blk 5
  have f5 := blk_free h1.blk 5
  have c3 := blk_cell h1.blk 3
  have f3 := blk_free h1.blk 3
  have c6 := blk_cell h1.blk 6
  have d1 := h1.om.cell (k * 2 + 1) (by omega)
  rw [(prs_at _ k r c HM.out).2, ← Nat.add_assoc] at d1
  simp at c5 c3 c6
  rw [ho] at c5
  have hne := h1.nem g rfl
  go_wp2_with fail
  go_ret
  exact ⟨rfl, RPost.from (bel_fr0 hb) (fun _ h => h.elim) ⟨_, _, (h1.set_going true).set_at c, setCell_q (setCell_q (Fr.refl _ _) 5 _) 3 _, fun k hk => .inl hk⟩⟩

def Rx.told (R : Rx) (n : Int) : Rx := { R with going := true, atn := n, last := n, ex := R.ex + 1 }
def Rx.goes (R : Rx) : Rx := { R with going := true }

set_option maxHeartbeats 3200000 in
/-- The first that is newer than the place of the scan; or none is. -/
theorem RNext_any (q : Nat) (lv mv : Value) (R : Rx) (w : World) (h : Rb w q lv mv R) (hl : R.L.length ≤ 1000) (h0 : 0 ≤ R.ex) (h1 : R.ex ≤ 1152921504606846976) :
    Calls Try.prog 22 #[.pointer (some ⟨q, 0, none⟩)] w fun e w' =>
      (∃ (i : Nat) (x n : Int), R.L[i]? = some (x, n) ∧ R.atn < n ∧ (∀ m ∈ R.L.take i, m.2 ≤ R.atn) ∧ e = .returned (.tuple #[.int .u64 x, .bool true]) ∧ RPost q lv mv (R.told n) w w') ∨
      ((∀ m ∈ R.L, m.2 ≤ R.atn) ∧ e = .returned (.tuple #[.int .u64 0, .bool false]) ∧ RPost q lv mv R.goes w w') := by
  obtain ⟨ao, cap, rfl, hcap, hmax⟩ := h.ol.shape
  unfold maxLen at hmax
  have c5 := blk_cell h.blk 5
  have f5 := blk_free h.blk 5
  simp at c5
  have hs := h.set_going true
  have hfs := setCell_q (Fr.refl (rf q (.slice ao R.L.length cap) mv) w) 5 (.bool true)
  have c1 := blk_cell hs.blk 1
  simp at c1
  obtain ⟨w1, hw1⟩ : ∃ w1, w.setCell ⟨q, 5, none⟩ (.bool true) = w1 := ⟨_, rfl⟩
  rw [hw1] at hs hfs c1
  go_enter Try.func22, Try.ntmps22
  go_wp2_with fail
  clear hw1 c5 f5
  go_loopg [14] R.L.length (fun g s14 wr => ∃ k : Nat, k + g = R.L.length ∧ s14 = .int .i64 k ∧ Below w1.heap.size w1 wr ∧ Hid (∀ m ∈ R.L.take k, m.2 ≤ R.atn))
  case atStart => exact ⟨0, by omega, rfl, Below.refl _ _, Lib.hid (by simp)⟩
  case round =>
    obtain ⟨k, hk, rfl, hb, hno⟩ := hrel
    have hwr := hs.keep (bel_fr0 hb) (fun _ _ h => h)
    cases gk with
    | zero =>
      obtain rfl : k = R.L.length := by omega
      go_wp2_with fail
      go_ret2
      have hn := hno.out
      rw [List.take_of_length_le (Nat.le_refl _)] at hn
      exact .inr ⟨hn, rfl, _, _, hwr, hfs.trans ((bel_fr0 hb).mono fun _ h => h.elim), fun k hk => .inl hk⟩
    | succ g =>
      obtain ⟨⟨x, n⟩, hx⟩ : ∃ x, R.L[k]? = some x := ⟨R.L[k]'(by omega), List.getElem?_eq_getElem _⟩
      obtain ⟨b, off, cap', hv', _, _, hcell⟩ := hwr.ol.rd.at (show 0 < R.L.length by omega)
      simp at hv'
      obtain ⟨rfl, rfl⟩ := hv'
      have d0 := hcell (k * 2) (by show _ < R.L.length * 2; omega)
      have d1 := hcell (k * 2 + 1) (by show _ < R.L.length * 2; omega)
      rw [(prs_at _ k x n hx).1] at d0
      rw [(prs_at _ k x n hx).2, ← Nat.add_assoc] at d1
      clear hcell
      have HX := Lib.hid hx
      clear hx
      obtain ⟨N, hN⟩ : ∃ N, wr.heap.size = N := ⟨_, rfl⟩
      obtain ⟨w2, hw2⟩ : ∃ w2, wr.alloc (.cells #[.int .u64 x, .int .i64 n] 75) = w2 := ⟨_, rfl⟩
      have hn2 : w2.heap[N]? = some (.cells #[.int .u64 x, .int .i64 n] 75 (0, 0)) := by subst hw2 hN; exact heap_alloc_new wr _
      have hb2 : Below w1.heap.size w1 w2 := by subst hw2; exact hb.alloc hb.size _
      have hqN : q < N := by rw [← hN]; exact blk_lt hwr.blk
      have h2 := hs.keep (bel_fr0 hb2) (fun _ _ h => h)
      have e0 := blk_cell hn2 0
      have e1 := blk_cell hn2 1
      have c3 := blk_cell h2.blk 3
      simp at e0 e1 c3
      by_cases hr : R.atn < n
      · go_wp2_with fail
        go_quiet (fail)
        have hb3 := bel_drewN hb2 nq
        have h3 := hs.keep (bel_fr0 hb3) (fun _ _ h => h)
        have hn3 : (w2.drewN nq).heap[N]? = some (.cells #[.int .u64 x, .int .i64 n] 75 (0, 0)) := hn2
        generalize w2.drewN nq = w3 at hb3 h3 hn3 ⊢
        clear e0 e1 c3 hwr d0 d1 hw2
        have e0 := blk_cell hn3 0
        have e1 := blk_cell hn3 1
        have c3 := blk_cell h3.blk 3
        have f3 := blk_free h3.blk 3
        have c4 := blk_cell h3.blk 4
        have f4 := blk_free h3.blk 4
        have c7 := blk_cell h3.blk 7
        have f7 := blk_free h3.blk 7
        simp at e0 e1 c3 c4 c7
        have hNq : N ≠ q := by omega
        go_wp2_with fail
        go_ret2
        exact .inl ⟨k, x, n, HX.out, hr, hno.out, rfl, _, _, ((h3.set_at n).set_last n).set_ex (R.ex + 1), setCell_q (setCell_q (setCell_q (hfs.trans ((bel_fr0 hb3).mono fun _ h => h.elim)) 3 _) 4 _) 7 _, fun k hk => .inl hk⟩
      · go_wp2_with fail
        go_quiet (fail)
        go_wp2_with fail
        go_roundg g
        case measure => omega
        case rel =>
          refine ⟨k + 1, by omega, by go_num, bel_drewN hb2 nq, Lib.hid ?_⟩
          rw [List.take_add_one, HX.out]
          intro e he
          simp at he
          rcases he with he | rfl
          · exact hno.out e he
          · show n ≤ R.atn; omega
end Go.Proofs.Ytgijaehmffojhaa
