/- The program's reader: one more cell. Printed by genMade.py. -/
import Derived.Test.YtkhjdcnlpablkaaDoorRdm
namespace Go.Proofs.YtkhjdcnlpablkaaDoor
open Go.RowKit
open Go.Lib (byteCells)

theorem Tryd.info60 : (Tryd.prog.info? 60).map (fun i => (i.zero, i.size, i.bytes)) = some (some (.agg #[.int .i64 0, .int .i64 0, .string ByteArray.empty]), 3, 32) := by kernel_rfl

theorem cv_one (c : Ce) : ∀ u ∈ cv c, u.oneCell' = true := by intro u hu; simp [cv] at hu; rcases hu with rfl | rfl | rfl <;> rfl
theorem cells_new3 (w : World) (c : Ce) : ∀ j u, (cv c)[j]? = some u → (w.alloc (.cells #[.int .i64 c.kind, .int .i64 c.n, .string c.text] 60)).cell? ((⟨w.heap.size, 0, none⟩ : Addr).add j) = some u := cells_new w (cv c) 60
theorem cvs_one (c : Ce) : cvs [c] = cv c := by simp [cvs]
theorem cvs_app (a b : List Ce) : cvs (a ++ b) = cvs a ++ cvs b := by simp [cvs]

/-- A cell is put behind the others. -/
theorem Rp.app {B : Nat} {w w3 : World} {rb : Nat} {bv sv : Value} {bs : List UInt8} {s : Pr} (h : Rp B w rb bv sv bs s) {v' : Value} {c : List Ce} {n' : Nat} (hn : n' = (s.out ++ c).length) (hs : Sl w3 60 3 v' n' (cvs s.out ++ cvs c)) (hf : Fr (fun k => sv.ownBlock = some k) w w3)
    (hv : v'.ownBlock = sv.ownBlock ∨ ∀ k, v'.ownBlock = some k → w.heap.size ≤ k) : Rw B w rb bv sv bs (w3.setCell ⟨rb, 4, none⟩ v') v' { s with out := s.out ++ c } := by
  have hne := h.sl.ne (c := #[bv, .int .i64 s.pos, .int .i64 s.tag, .int .i64 s.cells, sv, .int .i64 s.why, .int .i64 s.place]) h.blk (by decide)
  have hb3 : w3.heap[rb]? = some (s.blk bv sv) := hf.at h.blk (fun e => hne _ e rfl)
  have hv' : ∀ k, v'.ownBlock = some k → sv.ownBlock = some k ∨ w.heap.size ≤ k := fun k hk => by
    rcases hv with e | e
    · exact .inl (e ▸ hk)
    · exact .inr (e k hk)
  have hF := (hf.mono (G := fun k => k = rb ∨ sv.ownBlock = some k) fun k hk => .inr hk).setCell (p := ⟨rb, 4, none⟩) (.inl (.inl rfl)) v'
  refine ⟨⟨by rw [blk_set hb3 4 _]; rfl, ?_, h.inp.step (hF.below h.Ble fun k hk => ?_), h.hB, fun k hk => ?_, h.le⟩, hF, hv'⟩
  · rw [cvs_app, ← hn]
    exact hs.set_other v' (hs.ne (c := #[bv, .int .i64 s.pos, .int .i64 s.tag, .int .i64 s.cells, sv, .int .i64 s.why, .int .i64 s.place]) hb3 (by decide))
  · rcases hk with rfl | e
    · exact h.hB
    · exact h.own k e
  · rcases hv' k hk with e | e
    · exact h.own k e
    · have := h.Ble; omega

set_option maxHeartbeats 3200000 in
set_option maxRecDepth 100000 in
theorem made_any (B rb : Nat) (bv sv : Value) (bs : List UInt8) (s : Pr) (k n : Int) (str : ByteArray) (w : World) (h : Rp B w rb bv sv bs s) (hs : s.why = 0) (hc : s.cells ≤ 1024) (hol : s.out.length ≤ 10000000) :
    Calls Tryd.prog 46 #[.pointer (some ⟨rb, 0, none⟩), .agg #[.int .i64 k, .int .i64 n, .string str], .int .i64 1] w fun r w' => r = .returned (.tuple #[]) ∧
      if 1024 < s.cells + 1 then Er B w rb bv sv bs 7 s.tag w' else ∃ sv', Rw B w rb bv sv bs w' sv' { s with cells := s.cells + 1, out := s.out ++ [⟨k, n, str⟩] } := by
  obtain ⟨i0, hinf, hz0, hz1, hz2⟩ := info_parts Tryd.info60
  obtain ⟨n0, hn0⟩ : ∃ n0, s.out.length = n0 := ⟨_, rfl⟩
  have hsl0 := h.sl
  rw [hn0] at hsl0 hol
  obtain ⟨ao, cap, rfl, hcap, hmax⟩ := hsl0.shape
  unfold maxLen at hmax
  have HN0 := Lib.hid hn0
  clear hn0 hsl0
  have hA := h.below (bel_box w (.cells #[.int .i64 k, .int .i64 n, .string str] 60))
  have hbel := bel_box w (.cells #[.int .i64 k, .int .i64 n, .string str] 60)
  have hlt := h.lt
  have hbox := heap_alloc_new w (.cells #[.int .i64 k, .int .i64 n, .string str] 60)
  have hbn : ∀ q, (Value.slice ao n0 cap).ownBlock = some q → q < w.heap.size := fun q hq => h.sl.lt q hq
  obtain ⟨c0, c1, c2, c3, c4, c5, c6⟩ := Pr.cell hA.blk
  obtain ⟨_, _, d2, d3, _, d5, _⟩ := Pr.cell h.blk
  rw [hs] at c5 d5
  have HA := Lib.hid hA
  have HBEL := Lib.hid hbel
  have HS := Lib.hid hs
  obtain ⟨m, hm⟩ : ∃ m, s.cells = m := ⟨_, rfl⟩
  rw [hm] at hc c3 d3 ⊢
  have HM := Lib.hid hm
  by_cases hfull : 1024 < m + 1
  · obtain rfl : m = 1024 := by omega
    have H1 := Lib.hid (fail_any B rb bv (.slice ao n0 cap) bs s 7 s.tag _ hA)
    clear h hA hbel hs hm hbox hbn hfull c0 c1 c4 c6
    go_enter Tryd.func46, Tryd.ntmps46
    go_wp2_with fail
    refine (H1.out).mono ?_
    rintro r w2 ⟨rfl, h2⟩
    have H2 := Lib.hid h2
    clear h2
    go_wp2_with fail
    refine bodyPost_ret (results_none rfl _ _ _) rfl ⟨rfl, ?_⟩
    exact .fail (H2.out.behind HBEL.out) HS.out (by omega)
  · have f3 := blk_free hA.blk 3
    obtain ⟨m1, hm1⟩ : ∃ m1, m + 1 = m1 := ⟨_, rfl⟩
    have e1 : IntKind.i64.wrap (1024 - (m : Int)) = 1024 - (m : Int) := wraps_i64 _ (by omega) (by omega)
    have e2 : IntKind.i64.wrap ((m : Int) + 1) = (m1 : Int) := by rw [wraps_i64 _ (by omega) (by omega)]; omega
    have e4 : IntKind.i64.wrap (m1 : Int) = (m1 : Int) := wraps_i64 _ (by omega) (by omega)
    have e5 : (m : Int) + 1 = (m1 : Int) := by omega
    have e3 : decide (1024 - (m : Int) < 1) = false := by simp; omega
    have hU := (h.upd (s' := { s with cells := m1 }) ((Fr.refl (fun k => k = rb) w).setCell (p := ⟨rb, 3, none⟩) (.inl rfl) (.int .i64 (m1 : Int))) (by rw [blk_set h.blk 3 _]; rfl) rfl h.le).below (bel_box _ (.cells #[.int .i64 k, .int .i64 n, .string str] 60))
    have hbx := heap_alloc_new (w.setCell ⟨rb, 3, none⟩ (.int .i64 (m1 : Int))) (.cells #[.int .i64 k, .int .i64 n, .string str] 60)
    have hsz : (w.setCell ⟨rb, 3, none⟩ (.int .i64 (m1 : Int))).heap.size = w.heap.size := by simp
    rw [hsz] at hbx
    have HU := Lib.hid hU
    have HM1 := Lib.hid hm1
    have HBX := Lib.hid hbx
    clear h hA hbel hs hm hbox c0 c1 c2 c4 c6 d2 hm1 hU hbx hsz
    go_enter Tryd.func46, Tryd.ntmps46
    go_wp2_with fail
    have hU := HU.out
    have hbx := HBX.out
    generalize (w.setCell ⟨rb, 3, none⟩ (.int .i64 (m1 : Int))).alloc (.cells #[.int .i64 k, .int .i64 n, .string str] 60) = w1 at hU hbx ⊢
    clear HU HBX c3 c5 d3 d5 f3
    have hbl : w.heap.size < w1.heap.size := blk_lt hbx
    have HU := Lib.hid hU
    have b0 := blk_cell hbx 0
    have b1 := blk_cell hbx 1
    have b2 := blk_cell hbx 2
    simp at b0 b1 b2
    refine wp_region_ord (Ord.take 0 (.take 1 (.take 2 (.take 3 (.take 5 (.fork 4 6 (.alone 6 (.alone 7 (.take 8 (.take 9 (.alone 10 .done))))) (.alone 4 (.alone 7 (.take 8 (.take 9 (.alone 10 .done)))))))))))
      (fun W => W.cell? ⟨w.heap.size, 0, none⟩ = some (.int .i64 k) ∧ W.cell? ⟨w.heap.size, 1, none⟩ = some (.int .i64 n) ∧ W.cell? ⟨w.heap.size, 2, none⟩ = some (.string str)) (by kernel_rfl) (by kernel_rfl) (by kernel_rfl) (fun c a d v w h => by cases d <;> exact h) ⟨b0, b1, b2⟩ ?_
    have HBX2 := Lib.hid (show w1.drew.heap[w.heap.size]? = some (.cells #[.int .i64 k, .int .i64 n, .string str] 60) from hbx)
    clear hU hbx b0 b1 b2
    have hbd := HBX2.out
    have hU : Rw B w rb bv (.slice ao n0 cap) bs w1.drew (.slice ao n0 cap) { s with cells := m1 } := HU.out.below ((Below.refl _ _).drew)
    have hbl2 : w.heap.size < w1.drew.heap.size := hbl
    clear HU hbl HBX2
    generalize w1.drew = w2 at hU hbl2 hbd ⊢
    have hT : w2.cell? ⟨w.heap.size, 0, none⟩ = some (.int .i64 k) ∧ w2.cell? ⟨w.heap.size, 1, none⟩ = some (.int .i64 n) ∧ w2.cell? ⟨w.heap.size, 2, none⟩ = some (.string str) := by
      have b0 := blk_cell hbd 0
      have b1 := blk_cell hbd 1
      have b2 := blk_cell hbd 2
      simp at b0 b1 b2
      exact ⟨b0, b1, b2⟩
    have hba : (w2.alloc (.cells #[.int .i64 k, .int .i64 n, .string str] 60)).heap[w.heap.size]? = some (.cells #[.int .i64 k, .int .i64 n, .string str] 60) := by
      rw [(bel_box w2 (.cells #[.int .i64 k, .int .i64 n, .string str] 60)).block _ hbl2]; exact hbd
    have hT' : (w2.alloc (.cells #[.int .i64 k, .int .i64 n, .string str] 60)).cell? ⟨w.heap.size, 0, none⟩ = some (.int .i64 k) ∧ (w2.alloc (.cells #[.int .i64 k, .int .i64 n, .string str] 60)).cell? ⟨w.heap.size, 1, none⟩ = some (.int .i64 n) ∧ (w2.alloc (.cells #[.int .i64 k, .int .i64 n, .string str] 60)).cell? ⟨w.heap.size, 2, none⟩ = some (.string str) := by
      have b0 := blk_cell hba 0
      have b1 := blk_cell hba 1
      have b2 := blk_cell hba 2
      simp at b0 b1 b2
      exact ⟨b0, b1, b2⟩
    have HT := Lib.hid hT
    have HT' := Lib.hid hT'
    have HBA := Lib.hid hba
    clear hT hT' hba hbd
    have c4 := (Pr.cell hU.rp.blk).2.2.2.2.1
    have hA2 : Rw B w rb bv (.slice ao n0 cap) bs (w2.alloc (.cells #[.int .i64 k, .int .i64 n, .string str] 60)) (.slice ao n0 cap) { s with cells := m1 } := hU.below (bel_box _ _)
    have c4' := (Pr.cell hA2.rp.blk).2.2.2.2.1
    have hsl := hA2.rp.sl
    simp only at hsl
    rw [HN0.out] at hsl
    have HA2 := Lib.hid hA2
    have HSL := Lib.hid hsl
    clear hU hA2 hsl
    refine ord_take (o := ⟨some 32, _, _, _, _, none⟩) _ rfl (by rfl) (fun W hW => by (go_simp; with_reducible rfl)) ?_
    simp only [Act.put, List.setIfInBounds_toArray, List.set_cons_zero, List.set_cons_succ]
    refine ord_take (o := ⟨some 33, _, _, _, _, none⟩) _ rfl (by rfl) (fun W hW => by (go_simp; with_reducible rfl)) ?_
    simp only [Act.put, List.setIfInBounds_toArray, List.set_cons_zero, List.set_cons_succ]
    refine ord_take (o := ⟨some 34, _, _, _, _, none⟩) _ rfl (by rfl) (fun W hW => by (go_simp; with_reducible rfl)) ?_
    simp only [Act.put, List.setIfInBounds_toArray, List.set_cons_zero, List.set_cons_succ]
    refine ord_take (o := ⟨some 35, _, _, _, _, none⟩) _ rfl (by rfl) (fun W hW => by (go_simp; with_reducible rfl)) ?_
    simp only [Act.put, List.setIfInBounds_toArray, List.set_cons_zero, List.set_cons_succ]
    refine ord_take (o := ⟨some 37, _, _, _, _, none⟩) _ rfl (by rfl) (fun W hW => by (obtain ⟨e1, e2, e3⟩ := hW; go_simp; with_reducible rfl)) ?_
    simp only [Act.put, List.setIfInBounds_toArray, List.set_cons_zero, List.set_cons_succ]
    refine ord_fork (oi := ⟨some 36, _, _, _, _, none⟩) (oj := ⟨some 38, _, _, _, _, none⟩) rfl rfl (by rfl) (by rfl) (fun K hK => ?_) (fun K hK => ?_)
    · go_simp
      refine hK _ _ HT.out ?_
      clear hK K
      refine ord_alone (o := ⟨some 38, _, _, _, _, none⟩) rfl (by rfl) (fun K hK => ?_)
      go_simp
      refine hK _ _ HT'.out ?_
      clear hK K
      refine ord_alone (o := ⟨some 39, _, _, _, _, none⟩) rfl (by rfl) (fun K hK => ?_)
      refine wp_append_sl (.tmp 36) (.tmp 38) 24 rfl 60 i0 (.agg #[.int .i64 0, .int .i64 0, .string ByteArray.empty]) 3 32 Tryd.underlying24 hinf hz0 hz1 hz2 rfl (by decide) (.slice ao n0 cap) n0 (cvs s.out) rfl HSL.out ⟨w2.heap.size, 0, none⟩ 1 1 (cv ⟨k, n, str⟩) rfl rfl (cells_new3 w2 ⟨k, n, str⟩) (cv_one ⟨k, n, str⟩) (by unfold maxLen; omega) (by omega) ?_
      intro v' w3 hs3 hf3 hv3
      obtain ⟨ao', cap', rfl, _, _⟩ := hs3.shape
      rw [← cvs_one] at hs3
      have hq := HA2.out.rp.app (c := [⟨k, n, str⟩]) (n' := n0 + 1) (by rw [List.length_append, HN0.out]; rfl) hs3 hf3 (hv3.imp id (fun e k hk => by rw [e] at hk; cases hk; exact Nat.le_refl _))
      have hne : w.heap.size ≠ rb := by omega
      have hb3 : w3.heap[w.heap.size]? = some (.cells #[.int .i64 k, .int .i64 n, .string str] 60) := hf3.at HBA.out (fun e => absurd (hbn _ e) (Nat.lt_irrefl _))
      have hb4 : (w3.setCell ⟨rb, 4, none⟩ (.slice ao' (n0 + 1) cap')).heap[w.heap.size]? = some (.cells #[.int .i64 k, .int .i64 n, .string str] 60) := (Below.heap_setCell _ _ _ _ hne).trans hb3
      have g0 : w3.cell? ⟨w.heap.size, 0, none⟩ = some (.int .i64 k) := blk_cell hb3 0
      have g1 : w3.cell? ⟨w.heap.size, 1, none⟩ = some (.int .i64 n) := blk_cell hb3 1
      have g2 : w3.cell? ⟨w.heap.size, 2, none⟩ = some (.string str) := blk_cell hb3 2
      have e0 : (w3.setCell ⟨rb, 4, none⟩ (.slice ao' (n0 + 1) cap')).cell? ⟨w.heap.size, 0, none⟩ = some (.int .i64 k) := blk_cell hb4 0
      have e1' : (w3.setCell ⟨rb, 4, none⟩ (.slice ao' (n0 + 1) cap')).cell? ⟨w.heap.size, 1, none⟩ = some (.int .i64 n) := blk_cell hb4 1
      have e2' : (w3.setCell ⟨rb, 4, none⟩ (.slice ao' (n0 + 1) cap')).cell? ⟨w.heap.size, 2, none⟩ = some (.string str) := blk_cell hb4 2
      have HE := Lib.hid (⟨e0, e1', e2'⟩ : _ ∧ _ ∧ _)
      have hrb : w3.heap[rb]? = some (Pr.blk bv (.slice ao n0 cap) { s with cells := m1 }) := hf3.at HA2.out.rp.blk (fun e => (HSL.out.ne (c := #[bv, .int .i64 s.pos, .int .i64 s.tag, .int .i64 m1, .slice ao n0 cap, .int .i64 s.why, .int .i64 s.place]) HA2.out.rp.blk (by decide)) _ e rfl)
      have f4 := blk_free hrb 4
      have c43 := (Pr.cell hrb).2.2.2.2.1
      have HQ := Lib.hid hq
      clear hs3 hf3 hv3 hq hb3 hb4 hrb e0 e1' e2'
      refine hK _ _ ⟨g0, g1, g2⟩ ?_
      clear hK K g0 g1 g2 c4 c4'
      simp only [Act.put, List.setIfInBounds_toArray, List.set_cons_zero, List.set_cons_succ]
      refine ord_take (o := ⟨some 40, _, _, _, _, none⟩) _ rfl (by rfl) (fun W hW => by (go_simp; with_reducible rfl)) ?_
      simp only [Act.put, List.setIfInBounds_toArray, List.set_cons_zero, List.set_cons_succ]
      refine ord_take (o := ⟨some 41, _, _, _, _, none⟩) _ rfl (by rfl) (fun W hW => by (go_simp; with_reducible rfl)) ?_
      simp only [Act.put, List.setIfInBounds_toArray, List.set_cons_zero, List.set_cons_succ]
      refine ord_alone (o := ⟨none, _, _, _, _, none⟩) rfl (by rfl) (fun K hK => ?_)
      go_simp
      refine hK _ _ HE.out ?_
      clear hK K
      refine ord_done ?_
      go_wp2_with fail
      go_end0
      refine ⟨rfl, ?_⟩
      rw [HM1.out]
      exact ⟨_, HA2.out.trans HQ.out⟩
    · go_simp
      refine hK _ _ HT'.out ?_
      clear hK K
      refine ord_alone (o := ⟨some 36, _, _, _, _, none⟩) rfl (by rfl) (fun K hK => ?_)
      go_simp
      refine hK _ _ HT'.out ?_
      clear hK K
      refine ord_alone (o := ⟨some 39, _, _, _, _, none⟩) rfl (by rfl) (fun K hK => ?_)
      refine wp_append_sl (.tmp 36) (.tmp 38) 24 rfl 60 i0 (.agg #[.int .i64 0, .int .i64 0, .string ByteArray.empty]) 3 32 Tryd.underlying24 hinf hz0 hz1 hz2 rfl (by decide) (.slice ao n0 cap) n0 (cvs s.out) rfl HSL.out ⟨w2.heap.size, 0, none⟩ 1 1 (cv ⟨k, n, str⟩) rfl rfl (cells_new3 w2 ⟨k, n, str⟩) (cv_one ⟨k, n, str⟩) (by unfold maxLen; omega) (by omega) ?_
      intro v' w3 hs3 hf3 hv3
      obtain ⟨ao', cap', rfl, _, _⟩ := hs3.shape
      rw [← cvs_one] at hs3
      have hq := HA2.out.rp.app (c := [⟨k, n, str⟩]) (n' := n0 + 1) (by rw [List.length_append, HN0.out]; rfl) hs3 hf3 (hv3.imp id (fun e k hk => by rw [e] at hk; cases hk; exact Nat.le_refl _))
      have hne : w.heap.size ≠ rb := by omega
      have hb3 : w3.heap[w.heap.size]? = some (.cells #[.int .i64 k, .int .i64 n, .string str] 60) := hf3.at HBA.out (fun e => absurd (hbn _ e) (Nat.lt_irrefl _))
      have hb4 : (w3.setCell ⟨rb, 4, none⟩ (.slice ao' (n0 + 1) cap')).heap[w.heap.size]? = some (.cells #[.int .i64 k, .int .i64 n, .string str] 60) := (Below.heap_setCell _ _ _ _ hne).trans hb3
      have g0 : w3.cell? ⟨w.heap.size, 0, none⟩ = some (.int .i64 k) := blk_cell hb3 0
      have g1 : w3.cell? ⟨w.heap.size, 1, none⟩ = some (.int .i64 n) := blk_cell hb3 1
      have g2 : w3.cell? ⟨w.heap.size, 2, none⟩ = some (.string str) := blk_cell hb3 2
      have e0 : (w3.setCell ⟨rb, 4, none⟩ (.slice ao' (n0 + 1) cap')).cell? ⟨w.heap.size, 0, none⟩ = some (.int .i64 k) := blk_cell hb4 0
      have e1' : (w3.setCell ⟨rb, 4, none⟩ (.slice ao' (n0 + 1) cap')).cell? ⟨w.heap.size, 1, none⟩ = some (.int .i64 n) := blk_cell hb4 1
      have e2' : (w3.setCell ⟨rb, 4, none⟩ (.slice ao' (n0 + 1) cap')).cell? ⟨w.heap.size, 2, none⟩ = some (.string str) := blk_cell hb4 2
      have HE := Lib.hid (⟨e0, e1', e2'⟩ : _ ∧ _ ∧ _)
      have hrb : w3.heap[rb]? = some (Pr.blk bv (.slice ao n0 cap) { s with cells := m1 }) := hf3.at HA2.out.rp.blk (fun e => (HSL.out.ne (c := #[bv, .int .i64 s.pos, .int .i64 s.tag, .int .i64 m1, .slice ao n0 cap, .int .i64 s.why, .int .i64 s.place]) HA2.out.rp.blk (by decide)) _ e rfl)
      have f4 := blk_free hrb 4
      have c43 := (Pr.cell hrb).2.2.2.2.1
      have HQ := Lib.hid hq
      clear hs3 hf3 hv3 hq hb3 hb4 hrb e0 e1' e2'
      refine hK _ _ ⟨g0, g1, g2⟩ ?_
      clear hK K g0 g1 g2 c4 c4'
      simp only [Act.put, List.setIfInBounds_toArray, List.set_cons_zero, List.set_cons_succ]
      refine ord_take (o := ⟨some 40, _, _, _, _, none⟩) _ rfl (by rfl) (fun W hW => by (go_simp; with_reducible rfl)) ?_
      simp only [Act.put, List.setIfInBounds_toArray, List.set_cons_zero, List.set_cons_succ]
      refine ord_take (o := ⟨some 41, _, _, _, _, none⟩) _ rfl (by rfl) (fun W hW => by (go_simp; with_reducible rfl)) ?_
      simp only [Act.put, List.setIfInBounds_toArray, List.set_cons_zero, List.set_cons_succ]
      refine ord_alone (o := ⟨none, _, _, _, _, none⟩) rfl (by rfl) (fun K hK => ?_)
      go_simp
      refine hK _ _ HE.out ?_
      clear hK K
      refine ord_done ?_
      go_wp2_with fail
      go_end0
      refine ⟨rfl, ?_⟩
      rw [HM1.out]
      exact ⟨_, HA2.out.trans HQ.out⟩
end Go.Proofs.YtkhjdcnlpablkaaDoor
