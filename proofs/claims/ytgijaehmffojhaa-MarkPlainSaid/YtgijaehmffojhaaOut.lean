/- The linked list's out. -/
import Derived.Test.YtgijaehmffojhaaPush
namespace Go.Proofs.Ytgijaehmffojhaa
open Go.RowKit

/-- Halfway: the one ahead knows the one behind. -/
structure Half (w : World) (p : Nat) (ns : List (Nat × Int)) (k : Nat) (r3 r4 r5 r6 r7 r8 : Value) : Prop where
  blk : w.heap[p]? = some (.cells #[ptr (if k = 0 then pos ns 2 else pos ns 1), ptr (pos ns ns.length), .int .i64 (ns.length : Int), r3, r4, r5, r6, r7, r8] 69 (0, 0))
  nodes : ∀ (i b : Nat) (x : Int), ns[i]? = some (b, x) → w.heap[b]? = some (.cells #[.int .u64 x, ptr (pos ns i), ptr (if i + 1 = k then pos ns (k + 2) else pos ns (i + 2))] 72 (0, 0))

theorem ptr_shape (o : Option Nat) : ptr o = .pointer (o.map fun b => ⟨b, 0, none⟩) := by cases o <;> rfl

set_option maxHeartbeats 3200000 in
set_option maxRecDepth 100000 in
theorem out_any (p : Nat) (ns : List (Nat × Int)) (k xb : Nat) (x : Int) (r3 r4 r5 r6 r7 r8 : Value) (w : World) (h : Dl w p ns r3 r4 r5 r6 r7 r8) (hk : ns[k]? = some (xb, x)) (hl : ns.length ≤ 1000) :
    Calls Try.prog 43 #[.pointer (some ⟨p, 0, none⟩), .pointer (some ⟨xb, 0, none⟩)] w fun e w' => e = .returned (.tuple #[]) ∧ Dl w' p (ns.eraseIdx k) r3 r4 r5 r6 r7 r8 ∧ Fr (df p ns) w w' := by
  have hkl := (List.getElem?_eq_some_iff.1 hk).1
  have hx0 := h.nodes k xb x hk
  have hxp := h.ne hk
  have a0 := blk_cell h.blk 0
  have fa0 := blk_free h.blk 0
  have x1 := blk_cell hx0 1
  have x2 := blk_cell hx0 2
  simp at x1 x2
  obtain ⟨o1, ho1⟩ : ∃ o, ptr (pos ns k) = .pointer o := ⟨_, ptr_shape _⟩
  obtain ⟨o2, ho2⟩ : ∃ o, ptr (pos ns (k + 2)) = .pointer o := ⟨_, ptr_shape _⟩
  rw [ho1] at x1
  rw [ho2] at x2
  have HO1 := Lib.hid ho1
  have HO2 := Lib.hid ho2
  have HK := Lib.hid hk
  clear ho1 ho2
  go_enter Try.func43, Try.ntmps43
  go_upto_if 8 with fail
  go_cut [] (fun wx => Half wx p ns k r3 r4 r5 r6 r7 r8 ∧ Fr (df p ns) w wx)
  case first =>
    by_cases k0 : k = 0
    · subst k0
      obtain rfl : o1 = none := by have := HO1.out; simp [pos, ptr] at this; exact this.symm
      have HX := HO2
      clear hk
      go_wp2_with fail
      go_meet
      case rel =>
        refine ⟨⟨?_, fun i b y hi => ?_⟩, (Fr.refl _ _).setCell (.inl (.inl rfl)) _⟩
        · rw [blk_set h.blk, if_pos rfl, ← HX.out]; rfl
        · rw [blk_set_other _ (h.ne hi), h.nodes i b y hi, if_neg (by omega)]
    · obtain ⟨⟨pb, py⟩, hpv⟩ : ∃ x, ns[k - 1]? = some x := ⟨ns[k - 1]'(by omega), List.getElem?_eq_getElem _⟩
      have hpp : pos ns k = some pb := by have := pos_at hpv; rwa [show k - 1 + 1 = k by omega] at this
      have hp0 := h.nodes _ _ _ hpv
      have hpbp := h.ne hpv
      obtain rfl : o1 = some ⟨pb, 0, none⟩ := by have := HO1.out; rw [hpp] at this; simp [ptr] at this; exact this.symm
      have p2 := blk_cell hp0 2
      have fp2 := blk_free hp0 2
      simp [ptr] at p2
      have HX := HO2
      have HP := Lib.hid hpv
      clear hk hpv hpp
      go_wp2_with fail
      refine wp_region_still_tail 8 (by kernel_rfl) (by kernel_rfl) ?_
      simp only [List.take_succ_cons, List.take_zero, List.drop_succ_cons, List.drop_zero]
      change wpStill _ _ (w.drew) (fun a' => wpList _ _ _ _ a' (w.drew)) _ _
      have y1 : w.drew.cell? ⟨xb, 1, none⟩ = _ := x1
      have y2 : w.drew.cell? ⟨xb, 2, none⟩ = _ := x2
      have y3 : w.drew.cell? ⟨pb, 2, none⟩ = _ := p2
      have y4 : w.drew.frozen? ⟨pb, 2, none⟩ = _ := fp2
      have z1 : w.drew.heap[p]? = _ := h.blk
      have z2 : w.drew.heap[pb]? = _ := hp0
      have z3 : ∀ (i b : Nat) (x : Int), ns[i]? = some (b, x) → w.drew.heap[b]? = _ := h.nodes
      have z4 : Fr (df p ns) w w.drew := (Fr.refl _ w).drew
      have Z3 := Lib.hid z3
      clear z3
      generalize w.drew = w2 at y1 y2 y3 y4 z1 z2 Z3 z4 ⊢
      clear x1 x2 p2 fp2 a0 fa0 hp0
      repeat still_step
      refine wpStill_nil ?_
      go_wp2_with fail
      go_meet
      case rel =>
        refine ⟨⟨?_, fun i b y hi => ?_⟩, z4.setCell (.inl (.inr (at_mem HP.out))) _⟩
        · rw [blk_set_other _ (Ne.symm hpbp), z1, if_neg k0]
        · by_cases e : i + 1 = k
          · obtain rfl : i = k - 1 := by omega
            have := HP.out
            rw [hi] at this
            simp at this
            obtain ⟨rfl, rfl⟩ := this
            rw [blk_set z2, if_pos e, HX.out]
            rfl
          · rw [blk_set_other _ (show b ≠ pb from fun e' => by subst e'; have := nd_at h.nd hi HP.out; omega), if_neg e, Z3.out i b y hi]
  case rest =>
    obtain ⟨hH, hf⟩ := hcut
    clear a0 fa0 x1 x2 hx0
    have hx0 := hH.nodes k xb x hk
    rw [if_neg (by omega)] at hx0
    have x1 := blk_cell hx0 1
    have x2 := blk_cell hx0 2
    simp at x1 x2
    rw [HO1.out] at x1
    rw [HO2.out] at x2
    have b2 := blk_cell hH.blk 2
    have fb2 := blk_free hH.blk 2
    simp at b2
    by_cases k1 : k + 1 = ns.length
    · obtain rfl : o2 = none := by have := HO2.out; rw [pos_over (show ns.length < k + 2 by omega)] at this; simp [ptr] at this; exact this.symm
      have b1 := blk_cell hH.blk 1
      have fb1 := blk_free hH.blk 1
      simp at b1
      have HP := HO1
      clear hk
      go_wp2_with fail
      go_end0
      refine ⟨rfl, out_dl h hkl ?_ (fun i b y hi hik => ?_), (hf.setCell (p := ⟨p, 1, none⟩) (.inl (.inl rfl)) _).setCell (p := ⟨p, 2, none⟩) (.inl (.inl rfl)) _⟩
      · rw [blk_set (blk_set hH.blk 1 _) 2, if_pos k1, HP.out]; rfl
      · rw [blk_set_other _ (h.ne hi), blk_set_other _ (h.ne hi), hH.nodes i b y hi, if_neg (show ¬ i = k + 1 by have := (List.getElem?_eq_some_iff.1 hi).1; omega)]
    · obtain ⟨⟨nb, ny⟩, hnv⟩ : ∃ x, ns[k + 1]? = some x := ⟨ns[k + 1]'(by omega), List.getElem?_eq_getElem _⟩
      have hnn : pos ns (k + 2) = some nb := pos_at hnv
      have hn0 := hH.nodes _ _ _ hnv
      have hnbp := h.ne hnv
      obtain rfl : o2 = some ⟨nb, 0, none⟩ := by have := HO2.out; rw [hnn] at this; simp [ptr] at this; exact this.symm
      have p1 := blk_cell hn0 1
      have fp1 := blk_free hn0 1
      simp [ptr] at p1
      have HP := HO1
      have HN := Lib.hid hnv
      clear hk hnv hnn
      go_wp2_with fail
      refine wp_region_still_tail 8 (by kernel_rfl) (by kernel_rfl) ?_
      simp only [List.take_succ_cons, List.take_zero, List.drop_succ_cons, List.drop_zero]
      change wpStill _ _ (wc.drew) (fun a' => wpList _ _ _ _ a' (wc.drew)) _ _
      have y1 : wc.drew.cell? ⟨xb, 1, none⟩ = _ := x1
      have y2 : wc.drew.cell? ⟨xb, 2, none⟩ = _ := x2
      have y3 : wc.drew.cell? ⟨nb, 1, none⟩ = _ := p1
      have y4 : wc.drew.frozen? ⟨nb, 1, none⟩ = _ := fp1
      have y5 : wc.drew.cell? ⟨p, 2, none⟩ = _ := b2
      have y6 : wc.drew.frozen? ⟨p, 2, none⟩ = _ := fb2
      have z1 : wc.drew.heap[p]? = _ := hH.blk
      have z2 : wc.drew.heap[nb]? = _ := hn0
      have z3 : ∀ (i b : Nat) (x : Int), ns[i]? = some (b, x) → wc.drew.heap[b]? = _ := hH.nodes
      have z4 : Fr (df p ns) w wc.drew := hf.drew
      have Z3 := Lib.hid z3
      clear z3
      generalize wc.drew = w2 at y1 y2 y3 y4 y5 y6 z1 z2 Z3 z4 ⊢
      clear x1 x2 p1 fp1 b2 fb2 hn0
      repeat still_step
      refine wpStill_nil ?_
      go_wp2_with fail
      go_end0
      refine ⟨rfl, out_dl h hkl ?_ (fun i b y hi hik => ?_), (z4.setCell (p := ⟨nb, 1, none⟩) (.inl (.inr (at_mem HN.out))) _).setCell (p := ⟨p, 2, none⟩) (.inl (.inl rfl)) _⟩
      · rw [blk_set (w := w2.setCell ⟨nb, 1, none⟩ _) (by rw [blk_set_other _ (Ne.symm hnbp)]; exact z1) 2, if_neg k1]; rfl
      · rw [blk_set_other _ (h.ne hi)]
        by_cases e : i = k + 1
        · subst e
          have := HN.out
          rw [hi] at this
          simp at this
          obtain ⟨rfl, rfl⟩ := this
          rw [blk_set z2, if_pos rfl, HP.out]
          rfl
        · rw [blk_set_other _ (show b ≠ nb from fun e' => by subst e'; exact e (nd_at h.nd hi HN.out)), if_neg e, Z3.out i b y hi]
end Go.Proofs.Ytgijaehmffojhaa
