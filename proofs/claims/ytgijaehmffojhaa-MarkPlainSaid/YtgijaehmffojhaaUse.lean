/- The marked mailbox: Use, Forget. -/
import Derived.Test.YtgijaehmffojhaaMark2
namespace Go.Proofs.Ytgijaehmffojhaa
open Go.RowKit

theorem Use_on (p : Nat) (mv : Value) (X : Bx) (ref : Int) (w : World) (h : Mb w p mv X) (ho : X.on = true) :
    Calls Try.prog 20 #[.pointer (some ⟨p, 0, none⟩), .int .i64 ref] w fun e w' => e = .returned (.bool false) ∧ w' = w := by
  have c4 := blk_cell h.dl.blk 4
  simp at c4
  rw [ho] at c4
  go_enter Try.func20, Try.ntmps20
  go_wp2_with fail
  go_ret
  exact ⟨rfl, rfl⟩

theorem Use_none (p : Nat) (mv : Value) (X : Bx) (ref : Int) (w : World) (h : Mb w p mv X) (ho : X.on = false) (hl : X.ms.length ≤ 1000) (hp : place (·.1) ref X.ms = -1) :
    Calls Try.prog 20 #[.pointer (some ⟨p, 0, none⟩), .int .i64 ref] w fun e w' => e = .returned (.bool false) ∧ MPost p X.ns mv X w w' := by
  have c4 := blk_cell h.dl.blk 4
  simp at c4
  rw [ho] at c4
  have HP := Lib.hid hp
  clear hp
  go_enter Try.func20, Try.ntmps20
  go_wp2_with fail
  refine (find_any p mv X ref _ h hl).mono ?_
  rintro e w1 ⟨rfl, hb⟩
  rw [HP.out]
  go_wp2_with fail
  go_ret
  exact ⟨rfl, h.same hb⟩

def Bx.used (X : Bx) (m : Nat) : Bx := { X with on := true, fro := m }

set_option maxHeartbeats 800000 in
theorem Use_some (p : Nat) (mv : Value) (X : Bx) (ref : Int) (w : World) (h : Mb w p mv X) (ho : X.on = false) (hl : X.ms.length ≤ 1000) (k m : Nat) (r : Int) (hp : place (·.1) ref X.ms = k) (hm : X.ms[k]? = some (r, m)) :
    Calls Try.prog 20 #[.pointer (some ⟨p, 0, none⟩), .int .i64 ref] w fun e w' => e = .returned (.bool true) ∧ MPost p X.ns mv (X.used m) w w' := by
  have hk := (List.getElem?_eq_some_iff.1 hm).1
  obtain ⟨g, off, cap, cur, rfl, hcap, hmax, _, _, _⟩ := h.own.blk (by omega)
  unfold maxLen at hmax
  have c4 := blk_cell h.dl.blk 4
  simp at c4
  rw [ho] at c4
  have HP := Lib.hid hp
  have HM := Lib.hid hm
  clear hp hm
  go_enter Try.func20, Try.ntmps20
  go_wp2_with fail
  refine (find_any p _ X ref _ h hl).mono ?_
  rintro e w1 ⟨rfl, hb⟩
  rw [HP.out]
  have h1 := h.keep (bel_fr0 hb) (fun _ _ h => h)
  have f4 := blk_free h1.dl.blk 4
  have g4 := blk_cell h1.dl.blk 4
  have g6 := blk_cell h1.dl.blk 6
  have f6 := blk_free h1.dl.blk 6
  have g7 := blk_cell h1.dl.blk 7
  simp at g4 g6 g7
  have d1 := h1.own.cell (k * 2 + 1) (by omega)
  rw [(mcs_at _ _ k r m HM.out).2, ← Nat.add_assoc] at d1
  have hne := h1.nep g rfl
  obtain ⟨om, hom⟩ : ∃ o, ptr (pos X.ns m) = .pointer o := ⟨_, ptr_shape _⟩
  rw [hom] at d1
  have HO := Lib.hid hom
  clear c4 hom
  go_wp2_with fail
  go_ret
  refine ⟨rfl, MPost.from (bel_fr0 hb) (fun _ h => h.elim) ⟨_, (h1.set_on true).set_fro m (h.mle _ (List.mem_of_getElem? HM.out)) _ HO.out.symm, setCell_p (setCell_p (Fr.refl _ _) 4 _) 6 _, fun k hk => .inl hk⟩⟩

theorem Forget_none (p : Nat) (mv : Value) (X : Bx) (ref : Int) (w : World) (h : Mb w p mv X) (hl : X.ms.length ≤ 1000) (hp : place (·.1) ref X.ms = -1) :
    Calls Try.prog 31 #[.pointer (some ⟨p, 0, none⟩), .int .i64 ref] w fun e w' => e = .returned (.bool false) ∧ MPost p X.ns mv X w w' := by
  have HP := Lib.hid hp
  clear hp
  go_enter Try.func31, Try.ntmps31
  go_wp2_with fail
  refine (find_any p mv X ref _ h hl).mono ?_
  rintro e w1 ⟨rfl, hb⟩
  rw [HP.out]
  go_wp2_with fail
  go_ret
  exact ⟨rfl, h.same hb⟩

def Bx.forgot (X : Bx) (k : Nat) : Bx := { X with ms := X.ms.take k ++ X.ms.drop (k + 1) }

set_option maxHeartbeats 3200000 in
set_option maxRecDepth 100000 in
theorem Forget_some (p : Nat) (mv : Value) (X : Bx) (ref : Int) (w : World) (h : Mb w p mv X) (hl : X.ms.length ≤ 1000) (k : Nat) (hp : place (·.1) ref X.ms = k) (hk : k < X.ms.length) :
    Calls Try.prog 31 #[.pointer (some ⟨p, 0, none⟩), .int .i64 ref] w fun e w' => e = .returned (.bool true) ∧ MPost p X.ns mv (X.forgot k) w w' := by
  obtain ⟨i0, hinf, hz0, hz1, hz2⟩ := info_parts Try.info78
  obtain ⟨g, off, cap, cur, rfl, hcap, hmax, _, _, _⟩ := h.own.blk (by omega)
  unfold maxLen at hmax
  have HP := Lib.hid hp
  clear hp
  go_enter Try.func31, Try.ntmps31
  go_wp2_with fail
  refine (find_any p _ X ref _ h hl).mono ?_
  rintro e w1 ⟨rfl, hb⟩
  rw [HP.out]
  have h1 := h.keep (bel_fr0 hb) (fun _ _ h => h)
  go_upto_region 6 with fail
  have h2 : Mb w1.drew p (.slice (some ⟨g, off, none⟩) X.ms.length cap) X := h1.keep ((Fr.refl (fun _ => False) w1).drew) (fun _ _ h => h)
  have hf2 : Fr (fun _ => False) w1 w1.drew := (Fr.refl _ w1).drew
  refine wp_region_ord (Ord.take 0 (.take 1 (.take 2 (.take 3 (.take 5 (.take 6 (.take 8 (.take 9 (.take 10 (.take 12 (.take 13 (.fork 4 11 (.take 7 (.alone 11 (.take 14 (.alone 15 (.take 16 (.take 17 (.alone 18 .done))))))) (.take 14 (.alone 4 (.take 7 (.alone 15 (.take 16 (.take 17 (.alone 18 .done)))))))))))))))))))
    (fun W => True) (by kernel_rfl) (by kernel_rfl) (by kernel_rfl) (fun c a d v w h => by cases d <;> exact h) trivial ?_
  generalize w1.drew = w2 at h2 hf2 ⊢
  clear h1
  have c7 := blk_cell h2.dl.blk 7
  simp at c7
  have hkc : (k : Int) ≤ cap := by omega
  have hwr : IntKind.i64.wrap ((k : Int) + 1) = (k : Int) + 1 := by rw [IntKind.wrap_i64]; omega
  have hp0 : (0 : Int) ≤ (k : Int) + 1 := by omega
  have hp1 : (k : Int) + 1 ≤ (X.ms.length : Int) := by omega
  have hp2 : ((k : Int) + 1).toNat = k + 1 := by omega
  obtain ⟨A, hA⟩ : ∃ A, (if cap = k + 1 then some (⟨g, off, none⟩ : Addr) else some ⟨g, off + (k + 1) * 2, none⟩) = A := ⟨_, rfl⟩
  have q2 : Hid (Rd w2 2 (.slice A (X.ms.length - (k + 1)) (cap - (k + 1))) (X.ms.length - (k + 1)) (mcs X.ns (X.ms.drop (k + 1)))) := by
    have := h2.own.rd.drop (show k + 1 ≤ X.ms.length by omega)
    rw [mcs_drop] at this
    subst hA
    exact Lib.hid this
  have q1 : Hid (Sl w2 78 2 (.slice (some ⟨g, off, none⟩) k k) k (mcs X.ns (X.ms.take k))) := by
    have := h2.own.clip (k := k) (by omega)
    rw [mcs_take] at this
    exact Lib.hid this
  refine ord_take (o := ⟨some 13, _, _, _, _, none⟩) _ rfl (by rfl) (fun W hW => by (go_simp; with_reducible rfl)) ?_
  simp only [Act.put, List.setIfInBounds_toArray, List.set_cons_zero, List.set_cons_succ]
  refine ord_take (o := ⟨some 14, _, _, _, _, none⟩) _ rfl (by rfl) (fun W hW => by (go_simp; with_reducible rfl)) ?_
  simp only [Act.put, List.setIfInBounds_toArray, List.set_cons_zero, List.set_cons_succ]
  refine ord_take (o := ⟨some 15, _, _, _, _, none⟩) _ rfl (by rfl) (fun W hW => by (go_simp; with_reducible rfl)) ?_
  simp only [Act.put, List.setIfInBounds_toArray, List.set_cons_zero, List.set_cons_succ]
  refine ord_take (o := ⟨some 16, _, _, _, _, none⟩) _ rfl (by rfl) (fun W hW => by (go_simp; with_reducible rfl)) ?_
  simp only [Act.put, List.setIfInBounds_toArray, List.set_cons_zero, List.set_cons_succ]
  refine ord_take (o := ⟨some 18, _, _, _, _, none⟩) _ rfl (by rfl) (fun W hW => by (go_simp; with_reducible rfl)) ?_
  simp only [Act.put, List.setIfInBounds_toArray, List.set_cons_zero, List.set_cons_succ]
  refine ord_take (o := ⟨some 19, _, _, _, _, none⟩) _ rfl (by rfl) (fun W hW => by (go_simp; with_reducible rfl)) ?_
  simp only [Act.put, List.setIfInBounds_toArray, List.set_cons_zero, List.set_cons_succ]
  refine ord_take (o := ⟨some 21, _, _, _, _, none⟩) _ rfl (by rfl) (fun W hW => by (go_simp; with_reducible rfl)) ?_
  simp only [Act.put, List.setIfInBounds_toArray, List.set_cons_zero, List.set_cons_succ]
  refine ord_take (o := ⟨some 22, _, _, _, _, none⟩) _ rfl (by rfl) (fun W hW => by (go_simp; with_reducible rfl)) ?_
  simp only [Act.put, List.setIfInBounds_toArray, List.set_cons_zero, List.set_cons_succ]
  refine ord_take (o := ⟨some 23, _, _, _, _, none⟩) _ rfl (by rfl) (fun W hW => by (go_simp; with_reducible rfl)) ?_
  simp only [Act.put, List.setIfInBounds_toArray, List.set_cons_zero, List.set_cons_succ]
  refine ord_take (o := ⟨some 25, _, _, _, _, none⟩) _ rfl (by rfl) (fun W hW => by (go_simp; with_reducible rfl)) ?_
  simp only [Act.put, List.setIfInBounds_toArray, List.set_cons_zero, List.set_cons_succ]
  refine ord_take (o := ⟨some 26, _, _, _, _, none⟩) _ rfl (by rfl) (fun W hW => by (go_simp; with_reducible rfl)) ?_
  simp only [Act.put, List.setIfInBounds_toArray, List.set_cons_zero, List.set_cons_succ]
  refine ord_fork (oi := ⟨some 17, _, _, _, _, none⟩) (oj := ⟨some 24, _, _, _, _, none⟩) rfl rfl (by rfl) (by rfl) (fun K hK => ?_) (fun K hK => ?_)
  · go_simp
    refine hK _ _ trivial ?_
    clear hK K
    refine ord_take (o := ⟨some 20, _, _, _, _, none⟩) (.slice (some ⟨g, off, none⟩) k k) rfl (by rfl) (fun W hW => by (go_simp)) ?_
    simp only [Act.put, List.setIfInBounds_toArray, List.set_cons_zero, List.set_cons_succ]
    refine ord_alone (o := ⟨some 24, _, _, _, _, none⟩) rfl (by rfl) (fun K hK => ?_)
    go_simp
    refine hK _ _ trivial ?_
    clear hK K
    refine ord_take (o := ⟨some 27, _, _, _, _, none⟩) (.slice A (X.ms.length - (k + 1)) (cap - (k + 1))) rfl (by rfl) (fun W hW => by (go_simp)) ?_
    simp only [Act.put, List.setIfInBounds_toArray, List.set_cons_zero, List.set_cons_succ]
    refine ord_alone (o := ⟨some 28, _, _, _, _, none⟩) rfl (by rfl) (fun K hK => ?_)
    refine wp_append_rd (.tmp 20) (.tmp 27) 67 rfl 78 i0 (.agg #[.int .i64 0, .pointer none]) 2 16 Try.underlying67 hinf hz0 hz1 hz2 rfl (by decide) (.slice (some ⟨g, off, none⟩) k k) k (mcs X.ns (X.ms.take k)) rfl q1.out (.slice A (X.ms.length - (k + 1)) (cap - (k + 1))) (X.ms.length - (k + 1)) (mcs X.ns (X.ms.drop (k + 1))) rfl q2.out (mcs_one _ _) (by unfold maxLen; omega) (by omega) ?_
    intro v' w3 hs3 hf3 hv3
    have hb3 := hf3.at h2.dl.blk (fun e => h2.nep _ e rfl)
    have f7 := blk_free hb3 7
    have c73 := blk_cell hb3 7
    simp at c73
    obtain ⟨ao', cap', rfl, _, _⟩ := hs3.shape
    have hlen : (X.ms.take k ++ X.ms.drop (k + 1)).length = k + (X.ms.length - (k + 1)) := by simp; omega
    have hpost := h2.set_ms (mv' := .slice ao' (k + (X.ms.length - (k + 1))) cap') (ms := X.ms.take k ++ X.ms.drop (k + 1)) (hf3.mono fun b hb => by simp [Value.ownBlock] at hb ⊢; exact hb) (by rw [hlen, mcs_cat]; exact hs3) (by
      intro m hm
      simp only [List.mem_append] at hm
      rcases hm with hm | hm
      · exact h.mle m (List.mem_of_mem_take hm)
      · exact h.mle m (List.mem_of_mem_drop hm)) (hv3.imp (fun e => by rw [e]; rfl) (fun e b hb => by rw [e] at hb; cases hb; exact Nat.le_refl _))
    have HQ := Lib.hid hpost
    clear hs3 hf3 hv3 hpost hb3 hlen c7 h2
    refine hK _ _ trivial ?_
    clear hK K
    simp only [Act.put, List.setIfInBounds_toArray, List.set_cons_zero, List.set_cons_succ]
    refine ord_take (o := ⟨some 29, _, _, _, _, none⟩) _ rfl (by rfl) (fun W hW => by (go_simp; with_reducible rfl)) ?_
    simp only [Act.put, List.setIfInBounds_toArray, List.set_cons_zero, List.set_cons_succ]
    refine ord_take (o := ⟨some 30, _, _, _, _, none⟩) _ rfl (by rfl) (fun W hW => by (go_simp; with_reducible rfl)) ?_
    simp only [Act.put, List.setIfInBounds_toArray, List.set_cons_zero, List.set_cons_succ]
    refine ord_alone (o := ⟨none, _, _, _, _, none⟩) rfl (by rfl) (fun K hK => ?_)
    go_simp
    refine hK _ _ trivial ?_
    clear hK K
    refine ord_done ?_
    go_wp2_with fail
    go_ret
    exact ⟨rfl, (HQ.out.from hf2 (fun _ h => h.elim)).from (bel_fr0 hb) (fun _ h => h.elim)⟩
  · go_simp
    refine hK _ _ trivial ?_
    clear hK K
    refine ord_take (o := ⟨some 27, _, _, _, _, none⟩) (.slice A (X.ms.length - (k + 1)) (cap - (k + 1))) rfl (by rfl) (fun W hW => by (go_simp)) ?_
    simp only [Act.put, List.setIfInBounds_toArray, List.set_cons_zero, List.set_cons_succ]
    refine ord_alone (o := ⟨some 17, _, _, _, _, none⟩) rfl (by rfl) (fun K hK => ?_)
    go_simp
    refine hK _ _ trivial ?_
    clear hK K
    refine ord_take (o := ⟨some 20, _, _, _, _, none⟩) (.slice (some ⟨g, off, none⟩) k k) rfl (by rfl) (fun W hW => by (go_simp)) ?_
    simp only [Act.put, List.setIfInBounds_toArray, List.set_cons_zero, List.set_cons_succ]
    refine ord_alone (o := ⟨some 28, _, _, _, _, none⟩) rfl (by rfl) (fun K hK => ?_)
    refine wp_append_rd (.tmp 20) (.tmp 27) 67 rfl 78 i0 (.agg #[.int .i64 0, .pointer none]) 2 16 Try.underlying67 hinf hz0 hz1 hz2 rfl (by decide) (.slice (some ⟨g, off, none⟩) k k) k (mcs X.ns (X.ms.take k)) rfl q1.out (.slice A (X.ms.length - (k + 1)) (cap - (k + 1))) (X.ms.length - (k + 1)) (mcs X.ns (X.ms.drop (k + 1))) rfl q2.out (mcs_one _ _) (by unfold maxLen; omega) (by omega) ?_
    intro v' w3 hs3 hf3 hv3
    have hb3 := hf3.at h2.dl.blk (fun e => h2.nep _ e rfl)
    have f7 := blk_free hb3 7
    have c73 := blk_cell hb3 7
    simp at c73
    obtain ⟨ao', cap', rfl, _, _⟩ := hs3.shape
    have hlen : (X.ms.take k ++ X.ms.drop (k + 1)).length = k + (X.ms.length - (k + 1)) := by simp; omega
    have hpost := h2.set_ms (mv' := .slice ao' (k + (X.ms.length - (k + 1))) cap') (ms := X.ms.take k ++ X.ms.drop (k + 1)) (hf3.mono fun b hb => by simp [Value.ownBlock] at hb ⊢; exact hb) (by rw [hlen, mcs_cat]; exact hs3) (by
      intro m hm
      simp only [List.mem_append] at hm
      rcases hm with hm | hm
      · exact h.mle m (List.mem_of_mem_take hm)
      · exact h.mle m (List.mem_of_mem_drop hm)) (hv3.imp (fun e => by rw [e]; rfl) (fun e b hb => by rw [e] at hb; cases hb; exact Nat.le_refl _))
    have HQ := Lib.hid hpost
    clear hs3 hf3 hv3 hpost hb3 hlen c7 h2
    refine hK _ _ trivial ?_
    clear hK K
    simp only [Act.put, List.setIfInBounds_toArray, List.set_cons_zero, List.set_cons_succ]
    refine ord_take (o := ⟨some 29, _, _, _, _, none⟩) _ rfl (by rfl) (fun W hW => by (go_simp; with_reducible rfl)) ?_
    simp only [Act.put, List.setIfInBounds_toArray, List.set_cons_zero, List.set_cons_succ]
    refine ord_take (o := ⟨some 30, _, _, _, _, none⟩) _ rfl (by rfl) (fun W hW => by (go_simp; with_reducible rfl)) ?_
    simp only [Act.put, List.setIfInBounds_toArray, List.set_cons_zero, List.set_cons_succ]
    refine ord_alone (o := ⟨none, _, _, _, _, none⟩) rfl (by rfl) (fun K hK => ?_)
    go_simp
    refine hK _ _ trivial ?_
    clear hK K
    refine ord_done ?_
    go_wp2_with fail
    go_ret
    exact ⟨rfl, (HQ.out.from hf2 (fun _ h => h.elim)).from (bel_fr0 hb) (fun _ h => h.elim)⟩
end Go.Proofs.Ytgijaehmffojhaa
