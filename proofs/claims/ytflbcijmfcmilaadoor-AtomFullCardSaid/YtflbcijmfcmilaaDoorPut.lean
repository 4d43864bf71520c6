/- Put of the table. -/
import Derived.Test.YtflbcijmfcmilaaDoorRput
import Derived.StillTailTactics
namespace Go.Proofs.YtflbcijmfcmilaaDoor
open Go.RowKit

theorem find_put (L : List ByteArray) (s : ByteArray) :
    (findN L s = (0, 20) ∧ putN L s = ((0, 20), L)) ∨ (∃ i, i < L.length ∧ findN L s = (i + 1, 0) ∧ putN L s = ((i + 1, 0), L)) ∨
      (findN L s = (0, 5) ∧ placeL L s = none ∧ putN L s = if 4096 ≤ L.length then ((0, 8), L) else ((L.length + 1, 0), L ++ [s])) := by
  unfold findN putN
  cases hr : rightL s.data.toList with
  | false => exact .inl ⟨rfl, rfl⟩
  | true =>
    cases hp : placeL L s with
    | none => exact .inr (.inr ⟨rfl, rfl, rfl⟩)
    | some i =>
      refine .inr (.inl ⟨i, ?_, rfl, rfl⟩)
      unfold placeL at hp
      rw [List.findIdx?_eq_some_iff_getElem] at hp
      exact hp.1

theorem Tm.ne {w : World} {b k : Nat} {L : List ByteArray} (h : Tm w b L) {c : Array Value} {t : TypeId} (hk : w.heap[k]? = some (.cells c t (0, 0))) : b ≠ k := by
  obtain ⟨D, ⟨es, clock, hb, r⟩, h2⟩ := h
  rintro rfl
  rw [hb] at hk
  cases hk

theorem Tm.sl {w : World} {b e size n : Nat} {v : Value} {xs : List Value} {L : List ByteArray} (h : Tm w b L) (hs : Sl w e size v n xs) : ∀ k, v.ownBlock = some k → b ≠ k := by
  intro k hk
  obtain ⟨ao, cap, rfl, _, h1, h2, h3⟩ := hs
  rcases h3 with ⟨rfl, _⟩ | ⟨g, off, cur, rfl, h4, h5, h6⟩
  · simp [Value.ownBlock] at hk
  · simp [Value.ownBlock] at hk
    subst hk
    exact h.ne h4

theorem wpList_tm_store {w : World} {ops : Array Oper} {rest : List Oper} {o : Oper} {a : Act} {Q : Exit → Act → World → Prop} {b : Nat} {L : List ByteArray} (hgd : o.guard = none) (m x y : Operand) (ho : o.op = Op.mapUpdate 73 m x y) (hm : a.eval m = .map (some b)) (s : ByteArray) (hx : a.eval x = .string s)
    (n : Int) (hy : a.eval y = .int .i64 n) (hn : n = ((L.length + 1 : Nat) : Int)) (hs : s.size ≤ maxLen) (hp : placeL L s = none) (hL : L.length < maxLen) (h : Tm w b L)
    (k : ∀ w', Tm w' b (L ++ [s]) → w.grownBy w' (some b) → wpList Tryd.prog ops Q rest (a.put o.dst undef) w') : wpList Tryd.prog ops Q (o :: rest) a w := by
  refine wpList_plain hgd fun K hK => ?_
  obtain ⟨w', hr, h1, h2⟩ := h.store s hs hp hL
  rw [← hn] at hr
  unfold Oper.wp
  simp [execOp, ho, hm, hx, hy, hr, Result.andThen]
  exact hK _ _ (k w' h1 h2)

set_option maxHeartbeats 1600000 in
set_option maxRecDepth 100000 in
theorem put_any (p b : Nat) (sv : Value) (L : List ByteArray) (hL : L.length ≤ 4096) (s : ByteArray) (hs : s.size ≤ maxLen) (w : World) (h : Tb w p sv b L) (hT : Lib.Utf8Tabs 0 1 w) :
    Calls Tryd.prog 26 #[.pointer (some ⟨p, 0, none⟩), .string s] w fun e w' => e = .returned (.tuple #[.int .i64 (putN L s).1.1, .int .i64 (putN L s).1.2]) ∧
      ∃ sv', Tb w' p sv' b (putN L s).2 ∧ Fr (fun k => k = p ∨ k = b ∨ sv.ownBlock = some k) w w' ∧ ∀ k, sv'.ownBlock = some k → sv.ownBlock = some k ∨ w.heap.size ≤ k := by
  obtain ⟨i0, hinf, hz0, hz1, hz2⟩ := info_parts Tryd.info9
  have HRC := Lib.hid (find_any p sv b L s hs w h hT)
  have H := Lib.hid h
  have hbf : ∀ w', Below w.heap.size w w' → Fr (fun k => k = p ∨ k = b ∨ sv.ownBlock = some k) w w' := fun w' hb => ⟨hb.os, hb.tape, hb.output, hb.size, fun k hk _ => hb.block k hk⟩
  clear h hT
  rcases find_put L s with ⟨h1, h2⟩ | ⟨i, hi, h1, h2⟩ | ⟨h1, h3, h2⟩
  · have H1 := Lib.hid h1
    have H2 := Lib.hid h2
    clear h1 h2
    go_enter Tryd.func26, Tryd.ntmps26
    go_wp2_with fail
    refine (HRC.out).mono ?_
    rintro e w1 ⟨rfl, hb1⟩
    rw [H1.out]
    go_wp2_with fail
    go_ret2
    rw [H2.out]
    exact ⟨rfl, sv, H.out.below hb1, hbf _ hb1, fun k hk => .inl hk⟩
  · have H1 := Lib.hid h1
    have H2 := Lib.hid h2
    clear h1 h2
    go_enter Tryd.func26, Tryd.ntmps26
    go_wp2_with fail
    refine (HRC.out).mono ?_
    rintro e w1 ⟨rfl, hb1⟩
    rw [H1.out]
    go_wp2_with fail
    go_ret2
    rw [H2.out]
    exact ⟨rfl, sv, H.out.below hb1, hbf _ hb1, fun k hk => .inl hk⟩
  · have H1 := Lib.hid h1
    have H2 := Lib.hid h2
    have H3 := Lib.hid h3
    clear h1 h2 h3
    go_enter Tryd.func26, Tryd.ntmps26
    go_wp2_with fail
    refine (HRC.out).mono ?_
    rintro e w2 ⟨rfl, hb1⟩
    rw [H1.out]
    have h2 := H.out.below hb1
    have c0 := blk_cell h2.blk 0
    simp at c0
    have hs2 := h2.sl
    obtain ⟨ao, cap, rfl, hcap, hmax⟩ := hs2.shape
    by_cases h4 : 4096 ≤ L.length
    · have HG : Hid (putN L s = ((0, 8), L)) := Lib.hid (by rw [H2.out]; exact if_pos h4)
      clear h2
      go_wp2_with fail
      go_ret2
      rw [HG.out]
      exact ⟨rfl, _, H.out.below hb1, hbf _ hb1, fun k hk => .inl hk⟩
    · have HG : Hid (putN L s = ((L.length + 1, 0), L ++ [s])) := Lib.hid (by rw [H2.out]; exact if_neg h4)
      have HH2 := Lib.hid h2
      clear H2 h2
      go_wp2_with (at_builtin; refine wpList_append_sl rfl (.tmp 28) (.tmp 30) 46 rfl 9 i0 (.string ByteArray.empty) 1 16 Tryd.underlying46 hinf hz0 hz1 hz2 rfl (by decide) _ L.length (strs L) rfl (hs2.alloc _) ⟨w2.heap.size, 0, none⟩ 1 1 [.string s] rfl rfl (cell_one_new _ _ _) ?c2 ?b1 ?b2 ?next)
      case c2 =>
        intro u hu
        obtain rfl := List.mem_singleton.1 hu
        rfl
      case b1 => unfold maxLen; omega
      case b2 => omega
      case next =>
        intro v' w3 hs3 hf3 hv3
        obtain ⟨ao', cap', rfl, _, _⟩ := hs3.shape
        have hF : Fr (fun q => (Value.slice ao L.length cap).ownBlock = some q) w2 w3 := ((Fr.refl _ w2).alloc (.cells #[.string s] 9)).trans hf3
        have hl3 := hF.at HH2.out.blk (fun e => HH2.out.sl.ne HH2.out.blk (by decide) _ e rfl)
        have c3 := blk_cell hl3 0
        have f3 := blk_free hl3 0
        simp at c3
        clear c0
        have hm3 : Tm w3 b L := HH2.out.mp.keep (hF.block b HH2.out.mp.lt (fun e => HH2.out.mp.sl HH2.out.sl _ e rfl))
        have hf4 := (hF.mono (G := fun k => k = p ∨ k = b ∨ (Value.slice ao L.length cap).ownBlock = some k) fun q hq => Or.inr (Or.inr hq)).setCell (p := ⟨p, 0, none⟩) (.inl (.inl rfl)) (.slice ao' (L.length + 1) cap')
        have hl4 := blk_set hl3 0 (.slice ao' (L.length + 1) cap')
        have hm4 : Tm (w3.setCell ⟨p, 0, none⟩ (.slice ao' (L.length + 1) cap')) b L := hm3.keep (blk_set_other _ (hm3.ne hl3))
        have hs4 := hs3.set_other (a := ⟨p, 0, none⟩) (.slice ao' (L.length + 1) cap') (hs3.ne hl3 (by decide))
        have HV3 := Lib.hid hv3
        have HF4 := Lib.hid hf4
        have HS4 := Lib.hid hs4
        have HM4 := Lib.hid hm4
        have HL4 := Lib.hid hl4
        clear hv3 hs3 hf3 hm3 hF hf4 hs4 hm4
        go_wp2_with fail
        generalize w3.setCell ⟨p, 0, none⟩ (.slice ao' (L.length + 1) cap') = w4 at HF4 HS4 HM4 HL4 hl4 ⊢
        have c4 := blk_cell hl4 0
        have c5 := blk_cell hl4 1
        simp at c4 c5
        have d4 : w4.drew.cell? ⟨p, 0, none⟩ = _ := c4
        have d5 : w4.drew.cell? ⟨p, 1, none⟩ = _ := c5
        clear hl4 c4 c5 c3 f3 hl3
        go_still_tail 10, (by kernel_rfl)
        change wpList _ _ _ _ _ w4.drew
        have hm5 : Tm w4.drew b L := HM4.out.keep rfl
        refine wpList_tm_store rfl _ _ _ rfl rfl s rfl _ rfl ?_ hs H3.out (by unfold maxLen; omega) hm5 ?_
        · first | rfl | omega
        intro w5 hm6 hg5
        have hf6 := HF4.out.drew.grown hg5 (fun k hk => by cases hk; exact .inl (.inr (.inl rfl)))
        have hl6 : w5.heap[p]? = _ := (hg5.block p (blk_lt HL4.out) (fun e => HM4.out.ne HL4.out (Option.some.inj e).symm)).trans HL4.out
        have c6 := blk_cell hl6 0
        simp at c6
        go_wp2_with fail
        go_ret2
        rw [HG.out]
        refine ⟨rfl, _, ⟨hl6, ?_, hm6⟩, (hbf _ hb1).trans hf6, fun k hk => ?_⟩
        · have := HS4.out.keep (w' := w5) fun k hk => hg5.block k (HS4.out.lt k hk) (fun e => HM4.out.sl HS4.out k hk (Option.some.inj e).symm)
          simpa [strs] using this
        · rcases HV3.out with e | e
          · exact .inl (e ▸ hk)
          · rw [e] at hk
            simp at hk
            have := hb1.size
            exact .inr (by omega)
end Go.Proofs.YtflbcijmfcmilaaDoor
