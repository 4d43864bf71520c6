/- The queue's Has, Len, Add. -/
import Derived.Test.YtjdinopiipmojaaQb
import Derived.StillTailTactics
import Derived.Deep.DeepCutAuto
import Derived.Test.YtjdinopiipmojaaOrd
namespace Go.Proofs.Ytjdinopiipmojaa
open Go.RowKit

theorem Try.info2 : (Try.prog.info? 2).map (fun i => (i.zero, i.size, i.bytes)) = some (some (.int .i64 0), 1, 8) := by kernel_rfl

theorem wp_look {w : World} {b : Nat} {vs : Int → Value} {o : Oper} {a : Act} {Q : Exit → Act → World → Prop} {K : Act → World → Prop} (m x : Operand) (ho : o.op = Op.lookup 54 m x false) (hm : a.eval m = .map (some b)) (k : Int) (hx : a.eval x = .int .i64 k)
    (h1 : 1 ≤ k) (h4 : k ≤ 4) (hmp : Mp w b vs) (h : K (a.put o.dst (vs k)) w) : o.wp Try.prog a w K Q := by
  have hr := hmp.look k h1 h4
  unfold Oper.wp
  simp [execOp, ho, hm, hx, hr, Result.andThen]
  exact h

theorem wp_store {w : World} {b : Nat} {vs : Int → Value} {o : Oper} {a : Act} {Q : Exit → Act → World → Prop} {K : Act → World → Prop} (m x y : Operand) (ho : o.op = Op.mapUpdate 54 m x y) (hm : a.eval m = .map (some b)) (k : Int) (hx : a.eval x = .int .i64 k)
    (v : Value) (hy : a.eval y = v) (h1 : 1 ≤ k) (h4 : k ≤ 4) (hmp : Mp w b vs) (h : ∀ w', Mp w' b (setAt vs k v) → w.grownBy w' (some b) → K (a.put o.dst undef) w') : o.wp Try.prog a w K Q := by
  obtain ⟨w', hr, r1, r2⟩ := hmp.store k h1 h4 v
  unfold Oper.wp
  simp [execOp, ho, hm, hx, hy, hr, Result.andThen]
  exact h w' r1 r2

theorem Qb.mp_frame {w w3 : World} {p bm : Nat} {vs : Int → Value} {c : Int} {L : Int → List Int} (h : Qb w p bm vs c L) {k : Int} (k1 : 1 ≤ k) (k4 : k ≤ 4) (hf : Fr (fun b => (vs k).ownBlock = some b) w w3) : Mp w3 bm vs :=
  h.mp.keep (hf.block bm h.mp.lt (h.nem k k1 k4))

/-- One of the lists put in anew. -/
theorem Qb.put {w w3 w4 : World} {p bm : Nat} {vs : Int → Value} {c : Int} {L : Int → List Int} (h : Qb w p bm vs c L) {k : Int} (k1 : 1 ≤ k) (k4 : k ≤ 4) (hf : Fr (fun b => (vs k).ownBlock = some b) w w3)
    {v' : Value} {l : List Int} (hs : Sl w3 2 1 v' l.length (i64s l)) (hv : v'.ownBlock = (vs k).ownBlock ∨ ∀ b, v'.ownBlock = some b → w.heap.size ≤ b) (hmp : Mp w4 bm (setAt vs k v')) (hf4 : Fr (fun b => b = bm) w3 w4) :
    QPost p bm vs c (setL L k l) w w4 := by
  have hvb : ∀ b, v'.ownBlock = some b → (vs k).ownBlock = some b ∨ w.heap.size ≤ b := fun b hb => by
    rcases hv with hv | hv
    · exact .inl (hv ▸ hb)
    · exact .inr (hv b hb)
  have hvm : v'.ownBlock ≠ some bm := fun e => by
    rcases hvb bm e with h' | h'
    · exact h.nem k k1 k4 h'
    · have := h.mp.lt; omega
  have hp3 := hf.at h.blk (h.nep k1 k4)
  have hp4 := hf4.at hp3 h.ne
  have hF : Fr (bf p bm vs) w w4 := (hf.mono fun b hb => Or.inr (Or.inr ⟨k, k1, k4, hb⟩)).trans (hf4.mono fun b hb => Or.inr (Or.inl hb))
  refine ⟨setAt vs k v', ⟨hp4, hmp, fun j j1 j4 => ?_, fun j j1 j4 => ?_, fun i j i1 i4 j1 j4 hij b hi hj => ?_⟩, hF, fun b hb => ?_⟩
  · unfold setAt setL
    by_cases e : j = k
    · rw [if_pos e, if_pos e]
      exact hf4.sl hs fun b hb e' => hvm (e' ▸ hb)
    · rw [if_neg e, if_neg e]
      exact hf4.sl (hf.sl (h.own j j1 j4) fun b hb hb' => h.dis j k j1 j4 k1 k4 e b hb hb') fun b hb e' => h.nem j j1 j4 (e' ▸ hb)
  · unfold setAt
    by_cases e : j = k
    · rw [if_pos e]; exact hvm
    · rw [if_neg e]; exact h.nem j j1 j4
  · have hd : ∀ m, 1 ≤ m → m ≤ 4 → m ≠ k → (vs m).ownBlock = some b → v'.ownBlock ≠ some b := fun m m1 m4 hm hb hb' => by
      rcases hvb b hb' with h' | h'
      · exact h.dis m k m1 m4 k1 k4 hm b hb h'
      · have := (h.own m m1 m4).lt b hb; omega
    unfold setAt at hi hj
    by_cases ei : i = k
    · rw [if_pos ei] at hi
      rw [if_neg (by omega)] at hj
      exact hd j j1 j4 (by omega) hj hi
    · rw [if_neg ei] at hi
      by_cases ej : j = k
      · rw [if_pos ej] at hj
        exact hd i i1 i4 ei hi hj
      · rw [if_neg ej] at hj
        exact h.dis i j i1 i4 j1 j4 hij b hi hj
  · rcases hb with e | e | ⟨j, j1, j4, hj⟩
    · exact .inl (.inl e)
    · exact .inl (.inr (.inl e))
    · unfold setAt at hj
      by_cases e : j = k
      · rw [if_pos e] at hj
        rcases hvb b hj with h' | h'
        · exact .inl (.inr (.inr ⟨k, k1, k4, h'⟩))
        · exact .inr h'
      · rw [if_neg e] at hj
        exact .inl (.inr (.inr ⟨j, j1, j4, hj⟩))

theorem QPost.from {w w1 w' : World} {p bm : Nat} {vs : Int → Value} {c' : Int} {L' : Int → List Int} {F : Nat → Prop} (hf : Fr F w w1) (hF : ∀ k, F k → bf p bm vs k) (h : QPost p bm vs c' L' w1 w') : QPost p bm vs c' L' w w' := by
  obtain ⟨vs', hq, hf', hg⟩ := h
  exact ⟨vs', hq, (hf.mono hF).trans hf', fun k hk => (hg k hk).imp id (fun h => Nat.le_trans hf.size h)⟩

theorem Has_yes (p bm : Nat) (vs : Int → Value) (c : Int) (L : Int → List Int) (pid : Int) (w : World) (hq : Qb w p bm vs c L) (h : ∃ j, 1 ≤ j ∧ j ≤ 4 ∧ pid ∈ L j) :
    Calls Try.prog 19 #[.pointer (some ⟨p, 0, none⟩), .int .i64 pid] w fun e w' => e = .returned (.bool true) ∧ w' = w := by
  obtain ⟨j, j1, j4, hj⟩ := h
  go_enter Try.func19, Try.ntmps19
  go_wp2_with fail
  refine (find_any p bm vs c L pid _ hq).mono ?_
  rintro e w1 ⟨k, i, rfl, hf, rfl⟩
  have hk : 0 < k := by
    rcases hf with ⟨_, _, h⟩ | h
    · exact absurd hj (h j j1 j4)
    · omega
  go_wp2_with fail
  go_ret
  exact ⟨by simp, rfl⟩

theorem Has_no (p bm : Nat) (vs : Int → Value) (c : Int) (L : Int → List Int) (pid : Int) (w : World) (hq : Qb w p bm vs c L) (h : ∀ j, 1 ≤ j → j ≤ 4 → pid ∉ L j) :
    Calls Try.prog 19 #[.pointer (some ⟨p, 0, none⟩), .int .i64 pid] w fun e w' => e = .returned (.bool false) ∧ w' = w := by
  go_enter Try.func19, Try.ntmps19
  go_wp2_with fail
  refine (find_any p bm vs c L pid _ hq).mono ?_
  rintro e w1 ⟨k, i, rfl, hf, rfl⟩
  have hk : k = 0 := by
    rcases hf with ⟨h, _⟩ | ⟨h1, h4, h5, h6⟩
    · exact h
    · exact absurd (List.mem_of_getElem? h6) (h k h1 h4)
  subst hk
  go_wp2_with fail
  go_ret
  exact ⟨rfl, rfl⟩

def sumL (L : Int → List Int) : Nat → Nat
  | 0 => 0
  | k + 1 => sumL L k + (L ((k : Int) + 1)).length

theorem sumL_le (L : Int → List Int) : ∀ j k, j ≤ k → sumL L j ≤ sumL L k
  | j, 0, h => by obtain rfl : j = 0 := by omega
                  exact Nat.le_refl _
  | j, k + 1, h => by
    by_cases e : j = k + 1
    · subst e; exact Nat.le_refl _
    · exact Nat.le_trans (sumL_le L j k (by omega)) (Nat.le_add_right _ _)

theorem Len_any (p bm : Nat) (vs : Int → Value) (c : Int) (L : Int → List Int) (w : World) (hq : Qb w p bm vs c L) (ht : sumL L 4 ≤ 100000) :
    Calls Try.prog 13 #[.pointer (some ⟨p, 0, none⟩)] w fun e w' => e = .returned (.int .i64 (sumL L 4 : Nat)) ∧ w' = w := by
  have c0 := blk_cell hq.blk 0
  simp at c0
  go_enter Try.func13, Try.ntmps13
  go_wp2_with fail
  go_loopg [3, 4] 4 (fun g s3 s4 wr => ∃ k : Nat, k + g = 4 ∧ s3 = .int .i64 (sumL L k : Nat) ∧ s4 = .int .i64 ((k : Int) + 1) ∧ wr = w)
  case atStart => exact ⟨0, rfl, rfl, rfl, rfl⟩
  case round =>
    obtain ⟨k, hk, rfl, rfl, rfl⟩ := hrel
    cases gk with
    | zero =>
      obtain rfl : k = 4 := by omega
      go_wp2_with fail
      go_ret
      exact ⟨rfl, rfl⟩
    | succ g =>
      have hs := hq.own ((k : Int) + 1) (by omega) (by omega)
      have hlk := hq.mp.look ((k : Int) + 1) (by omega) (by omega)
      obtain ⟨ao, cap, hvs, hcap, hmax⟩ := hs.shape
      unfold maxLen at hmax
      rw [hvs] at hlk
      have h1 : sumL L (k + 1) ≤ 100000 := Nat.le_trans (sumL_le L (k + 1) 4 (by omega)) ht
      have h2 : sumL L (k + 1) = sumL L k + (L ((k : Int) + 1)).length := rfl
      generalize (L ((k : Int) + 1)).length = m at *
      generalize sumL L k = s at *
      go_wp2_with fail
      go_roundg g
      case measure => omega
      case rel => exact ⟨k + 1, by omega, by rw [h2]; go_num, by go_num, rfl⟩

set_option maxHeartbeats 800000 in
theorem Add_ok (p bm : Nat) (vs : Int → Value) (c : Int) (L : Int → List Int) (pid pr : Int) (w : World) (hq : Qb w p bm vs c L) (ht : sumL L 4 < 64) (h1 : 1 ≤ pid) (h2 : pid ≤ 1099511627776) (h3 : 1 ≤ pr) (h4 : pr ≤ 4)
    (hno : ∀ j, 1 ≤ j → j ≤ 4 → pid ∉ L j) :
    Calls Try.prog 9 #[.pointer (some ⟨p, 0, none⟩), .int .i64 pid, .int .i64 pr] w fun e w' => e = .returned (.int .i64 0) ∧ QPost p bm vs c (setL L pr (L pr ++ [pid])) w w' := by
  have c0 := blk_cell hq.blk 0
  simp at c0
  have HN := Lib.hid hno
  clear hno
  go_enter Try.func9, Try.ntmps9
  go_wp2_with fail
  refine (Has_no p bm vs c L pid _ hq HN.out).mono ?_
  rintro e w1 ⟨rfl, rfl⟩
  go_wp2_with fail
  refine (Len_any p bm vs c L _ hq (by omega)).mono ?_
  rintro e w1 ⟨rfl, rfl⟩
  have hlen : (L pr).length < 64 := by
    have : pr = 1 ∨ pr = 2 ∨ pr = 3 ∨ pr = 4 := by omega
    simp [sumL] at ht
    rcases this with rfl | rfl | rfl | rfl <;> omega
  go_upto_region 9 with fail
  obtain ⟨i0, hi, hz0, hz1, hz2⟩ := info_parts Try.info2
  refine wp_region_ord (Ord.take 0 (.take 1 (.take 2 (.take 3 (.take 4 (.take 5 (.take 6 (.take 7 (.take 8 (.take 9 (.take 11 (.fork 10 12 (.alone 12 (.alone 13 (.alone 14 .done))) (.alone 10 (.alone 13 (.alone 14 .done)))))))))))))))
    (fun W => W.cell? ⟨p, 0, none⟩ = some (.map (some bm))) (by kernel_rfl) (by kernel_rfl) (by kernel_rfl) (fun c a d v w h => by cases d <;> exact h) c0 ?_
  refine ord_take (o := ⟨some 33, _, _, _, _, none⟩) _ rfl (by rfl) (fun W hW => by (go_simp; with_reducible rfl)) ?_
  simp only [Act.put, List.setIfInBounds_toArray, List.set_cons_zero, List.set_cons_succ]
  refine ord_take (o := ⟨some 34, _, _, _, _, none⟩) _ rfl (by rfl) (fun W hW => by (go_simp; with_reducible rfl)) ?_
  simp only [Act.put, List.setIfInBounds_toArray, List.set_cons_zero, List.set_cons_succ]
  refine ord_take (o := ⟨some 35, _, _, _, _, none⟩) _ rfl (by rfl) (fun W hW => by (go_simp; with_reducible rfl)) ?_
  simp only [Act.put, List.setIfInBounds_toArray, List.set_cons_zero, List.set_cons_succ]
  refine ord_take (o := ⟨some 36, _, _, _, _, none⟩) _ rfl (by rfl) (fun W hW => by (go_simp; with_reducible rfl)) ?_
  simp only [Act.put, List.setIfInBounds_toArray, List.set_cons_zero, List.set_cons_succ]
  refine ord_take (o := ⟨some 37, _, _, _, _, none⟩) _ rfl (by rfl) (fun W hW => by (go_simp; with_reducible rfl)) ?_
  simp only [Act.put, List.setIfInBounds_toArray, List.set_cons_zero, List.set_cons_succ]
  refine ord_take (o := ⟨some 38, _, _, _, _, none⟩) _ rfl (by rfl) (fun W hW => by (go_simp; with_reducible rfl)) ?_
  simp only [Act.put, List.setIfInBounds_toArray, List.set_cons_zero, List.set_cons_succ]
  refine ord_take (o := ⟨some 39, _, _, _, _, none⟩) _ rfl (by rfl) (fun W hW => by (go_simp; with_reducible rfl)) ?_
  simp only [Act.put, List.setIfInBounds_toArray, List.set_cons_zero, List.set_cons_succ]
  refine ord_take (o := ⟨some 40, _, _, _, _, none⟩) _ rfl (by rfl) (fun W hW => by (go_simp; with_reducible rfl)) ?_
  simp only [Act.put, List.setIfInBounds_toArray, List.set_cons_zero, List.set_cons_succ]
  refine ord_take (o := ⟨some 41, _, _, _, _, none⟩) _ rfl (by rfl) (fun W hW => by (go_simp; with_reducible rfl)) ?_
  simp only [Act.put, List.setIfInBounds_toArray, List.set_cons_zero, List.set_cons_succ]
  refine ord_take (o := ⟨some 42, _, _, _, _, none⟩) _ rfl (by rfl) (fun W hW => by (go_simp; with_reducible rfl)) ?_
  simp only [Act.put, List.setIfInBounds_toArray, List.set_cons_zero, List.set_cons_succ]
  refine ord_take (o := ⟨some 44, _, _, _, _, none⟩) _ rfl (by rfl) (fun W hW => by (go_simp; with_reducible rfl)) ?_
  simp only [Act.put, List.setIfInBounds_toArray, List.set_cons_zero, List.set_cons_succ]
  have hq' : Qb w1.drew p bm vs c L := hq.drewN 1
  have hq2 : Qb (w1.drew.alloc (.cells #[.int .i64 pid] 2)) p bm vs c L := hq'.keep ((Fr.refl (fun _ => False) _).alloc _) (fun _ _ h => h)
  have c2 := blk_cell hq2.blk 0
  simp at c2
  refine ord_fork (oi := ⟨some 43, _, _, _, _, none⟩) (oj := ⟨some 45, _, _, _, _, none⟩) rfl rfl (by rfl) (by rfl) (fun K hK => ?_) (fun K hK => ?_)
  · refine wp_look (.tmp 41) (.tmp 42) rfl rfl pr rfl h3 h4 hq'.mp ?_
    simp only [Act.put, List.setIfInBounds_toArray, List.set_cons_zero, List.set_cons_succ]
    refine hK _ _ c0 ?_
    clear hK K
    refine ord_alone (o := ⟨some 45, _, _, _, _, none⟩) rfl (by rfl) (fun K hK => ?_)
    go_simp
    refine hK _ _ c2 ?_
    clear hK K
    refine ord_alone (o := ⟨some 46, _, _, _, _, none⟩) rfl (by rfl) (fun K hK => ?_)
    refine wp_append_sl (.tmp 43) (.tmp 45) 39 rfl 2 i0 (.int .i64 0) 1 8 Try.underlying39 hi hz0 hz1 hz2 rfl (by decide) (vs pr) (L pr).length (i64s (L pr)) rfl (hq2.own pr h3 h4) ⟨w1.drew.heap.size, 0, none⟩ 1 1 [.int .i64 pid] rfl rfl ?_ ?_ ?_ ?_ ?_
    · exact cell_one_new _ _ _
    · intro u hu; simp at hu; subst hu; rfl
    · unfold maxLen; omega
    · omega
    intro v' w3 hs3 hf3 hv3
    simp only [Act.put, List.setIfInBounds_toArray, List.set_cons_zero, List.set_cons_succ]
    have hp3 := hf3.at hq2.blk (hq2.nep h3 h4)
    have c3 := blk_cell hp3 0
    simp at c3
    refine hK _ _ c3 ?_
    clear hK K
    refine ord_alone (o := ⟨none, _, _, _, _, none⟩) rfl (by rfl) (fun K hK => ?_)
    refine wp_store (.tmp 36) (.tmp 37) (.tmp 46) rfl rfl pr rfl v' rfl h3 h4 (hq2.mp_frame h3 h4 hf3) ?_
    intro w4 hmp4 hg4
    have hf4 : Fr (fun b => b = bm) w3 w4 := (Fr.refl _ _).grown hg4 (fun b hb => by cases hb; exact .inl rfl)
    have hpost := hq2.put h3 h4 hf3 (l := L pr ++ [pid]) (by simpa using hs3) (hv3.imp id (fun e b hb => by rw [e] at hb; cases hb; exact Nat.le_refl _)) hmp4 hf4
    have hp4 := hf4.at hp3 hq2.ne
    have c4 := blk_cell hp4 0
    simp at c4
    simp only [Act.put]
    refine hK _ _ c4 ?_
    clear hK K
    refine ord_done ?_
    go_wp2_with fail
    go_ret
    exact ⟨rfl, hpost.from (((Fr.refl (fun _ => False) w1).drewN 1).alloc _) (fun _ h => h.elim)⟩
  · go_simp
    refine hK _ _ c2 ?_
    clear hK K
    refine ord_alone (o := ⟨some 43, _, _, _, _, none⟩) rfl (by rfl) (fun K hK => ?_)
    refine wp_look (.tmp 41) (.tmp 42) rfl rfl pr rfl h3 h4 hq2.mp ?_
    simp only [Act.put, List.setIfInBounds_toArray, List.set_cons_zero, List.set_cons_succ]
    refine hK _ _ c2 ?_
    clear hK K
    refine ord_alone (o := ⟨some 46, _, _, _, _, none⟩) rfl (by rfl) (fun K hK => ?_)
    refine wp_append_sl (.tmp 43) (.tmp 45) 39 rfl 2 i0 (.int .i64 0) 1 8 Try.underlying39 hi hz0 hz1 hz2 rfl (by decide) (vs pr) (L pr).length (i64s (L pr)) rfl (hq2.own pr h3 h4) ⟨w1.drew.heap.size, 0, none⟩ 1 1 [.int .i64 pid] rfl rfl ?_ ?_ ?_ ?_ ?_
    · exact cell_one_new _ _ _
    · intro u hu; simp at hu; subst hu; rfl
    · unfold maxLen; omega
    · omega
    intro v' w3 hs3 hf3 hv3
    simp only [Act.put, List.setIfInBounds_toArray, List.set_cons_zero, List.set_cons_succ]
    have hp3 := hf3.at hq2.blk (hq2.nep h3 h4)
    have c3 := blk_cell hp3 0
    simp at c3
    refine hK _ _ c3 ?_
    clear hK K
    refine ord_alone (o := ⟨none, _, _, _, _, none⟩) rfl (by rfl) (fun K hK => ?_)
    refine wp_store (.tmp 36) (.tmp 37) (.tmp 46) rfl rfl pr rfl v' rfl h3 h4 (hq2.mp_frame h3 h4 hf3) ?_
    intro w4 hmp4 hg4
    have hf4 : Fr (fun b => b = bm) w3 w4 := (Fr.refl _ _).grown hg4 (fun b hb => by cases hb; exact .inl rfl)
    have hpost := hq2.put h3 h4 hf3 (l := L pr ++ [pid]) (by simpa using hs3) (hv3.imp id (fun e b hb => by rw [e] at hb; cases hb; exact Nat.le_refl _)) hmp4 hf4
    have hp4 := hf4.at hp3 hq2.ne
    have c4 := blk_cell hp4 0
    simp at c4
    simp only [Act.put]
    refine hK _ _ c4 ?_
    clear hK K
    refine ord_done ?_
    go_wp2_with fail
    go_ret
    exact ⟨rfl, hpost.from (((Fr.refl (fun _ => False) w1).drewN 1).alloc _) (fun _ h => h.elim)⟩
end Go.Proofs.Ytjdinopiipmojaa
