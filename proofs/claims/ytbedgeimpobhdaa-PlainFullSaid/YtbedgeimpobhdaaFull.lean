/- PlainFull: refused is only what there is no room for; it is not there. -/
import Derived.Test.YtbedgeimpobhdaaKnown
import Derived.Test.YtbedgeimpobhdaaAll
import Derived.Deep.DeepCutAuto
namespace Go.Proofs.Ytbedgeimpobhdaa
open Go.RowKit

set_option maxHeartbeats 3200000 in
set_option maxRecDepth 100000 in
theorem full_walk (room : Int) (ao cap_ : _) (n : Nat) (l : List Int) (w : World)
    (r0 : Rd w 1 (.slice ao n cap_) n (u64s l)) :
    Calls Try.prog 4 #[.int .i64 room, .slice ao n cap_] w fun e w' => e = .returned (.bool true) ∧ Below w.heap.size w w' := by
  obtain ⟨i0, hinf, hz0, hz1, hz2⟩ := info_parts Try.info28
  obtain ⟨B, hB⟩ : ∃ B, w.heap.size = B := ⟨_, rfl⟩
  obtain ⟨_, _, hv0, hc0, hm0⟩ := r0.shape
  simp at hv0
  obtain ⟨rfl, rfl⟩ := hv0
  unfold maxLen at hm0
  have HL := Lib.hid (show l.length = n by have := r0.len; simpa [u64s] using this)
  have h1 := Int.emod_nonneg room (show (32 : Int) ≠ 0 by omega)
  have h2 := Int.emod_lt_of_pos room (show (0 : Int) < 32 by omega)
  obtain ⟨r, hr⟩ : ∃ r : Nat, room % 32 = r := ⟨(room % 32).toNat, by omega⟩
  have hr2 : r < 32 := by omega
  clear h1 h2
  go_enter Try.func4, Try.ntmps4
  go_wp2_with fail
  refine (Count_any room 32 _ (by omega)).mono ?_
  rintro e w1 ⟨rfl, rfl⟩
  rw [hr]
  clear hr
  go_wp2_with fail
  refine (New_ok _ _ (by omega) (by omega)).mono ?_
  rintro e w0 ⟨rfl, h0⟩
  have hb0 := BoxIn.new w (1 + (r : Int))
  rw [← h0, hB] at hb0
  rw [hB]
  have HB := Lib.hid hB
  have hsz : w.heap.size ≤ B := by omega
  clear h0 hB
  go_wp2_with fail
  go_loopw [6, 7, 8] (fun s6 s7 _ wr => ∃ k : Nat, k ≤ n ∧ s7 = .int .i64 k ∧ ∃ sl, BoxIn B w wr B (1 + (r : Int)) 0 0 (l.take (min k (r + 1))) sl ∧ Sl wr 28 1 s6 (min k (r + 1)) (u64s (l.take (min k (r + 1)))) ∧ (∀ q, s6.ownBlock = some q → B ≤ q ∧ ¬ bf B sl q)) (fun _ s7 _ _ => n - (intOf s7).toNat)
  case atStart => exact ⟨0, by omega, rfl, _, by simpa using hb0, by simpa [u64s] using Sl.nil _ _ _, by simp [Value.ownBlock]⟩
  case round =>
    clear hb0
    obtain ⟨k, hk, rfl, sl, hb, hs, hd⟩ := hrel
    obtain ⟨ao6, cap6, rfl, hc6, hm6⟩ := hs.shape
    by_cases hlt : k < n
    · obtain ⟨g, off, cap, hv, _, _, hcell⟩ := (r0.below hsz hb.below).at (by omega)
      simp at hv
      obtain ⟨rfl, rfl⟩ := hv
      obtain ⟨x, hx⟩ : ∃ x, l[k]? = some x := ⟨l[k]'(by have := HL.out; omega), List.getElem?_eq_getElem _⟩
      have hck := hcell k (by omega)
      rw [u64s_at hx] at hck
      clear hcell
      have HX := Lib.hid hx
      clear hx
      by_cases hr : k < r + 1
      · rw [show min k (r + 1) = k by omega] at *
        go_wp2_with fail
        refine (Put_room B _ 0 0 x (l.take k) _ _ hb.box (by simp; omega) (by have := HL.out; simp; omega)).mono ?_
        rintro e w1 ⟨rfl, hp⟩
        obtain ⟨sl1, hb1, hs1, hd1⟩ := hb.step2 hp hs (fun q hq => (hd q hq).2)
        have hd0 : ∀ q, (Value.slice ao6 k cap6).ownBlock = some q → B ≤ q := fun q hq => (hd q hq).1
        obtain ⟨g', off', cap', hv', _, _, hcell'⟩ := (r0.below hsz hb1.below).at (by omega)
        simp at hv'
        obtain ⟨⟨rfl, rfl⟩, rfl⟩ := hv'
        have hck' := hcell' k (by omega)
        rw [u64s_at HX.out] at hck'
        clear hp hb hs hd hck hcell'
        have t1 : ((k : Int) < 1 + (r : Int)) := by omega
        have t2 : decide ((k : Int) < 1 + (r : Int)) = true := by simpa using t1
        go_wp2_with (at_builtin; refine wpList_append_sl rfl (.tmp 45) (.tmp 50) 22 rfl 28 i0 (.int .u64 0) 1 8 Try.underlying22 hinf hz0 hz1 hz2 rfl (by decide) _ _ _ rfl (hs1.alloc _) ⟨w1.heap.size, 0, none⟩ 1 1 [.int .u64 x] rfl rfl ?c1 ?c2 ?b1 ?b2 ?next)
        case c1 => intro j u hj; match j, hj with | 0, hj => simp at hj; subst hj; simp [Addr.add]
        case c2 => intro u hu; simp at hu; subst hu; rfl
        case b1 => unfold maxLen; omega
        case b2 => omega
        case next =>
          intro v2 w2 hs2 hf2 hv2
          have hfa : Fr (fun q => (Value.slice ao6 k cap6).ownBlock = some q) w1 w2 := ((Fr.refl _ w1).alloc (.cells #[.int .u64 x] 28)).trans hf2
          have hb2 := hb1.keep hfa (fun q hq hF => hd1 q hF hq) hd0
          have hd2 : ∀ q, v2.ownBlock = some q → B ≤ q ∧ ¬ bf B sl1 q := by
            intro q hq
            rcases hv2 with h | h
            · exact ⟨hd0 q (h ▸ hq), hd1 q (h ▸ hq)⟩
            · rw [h] at hq; simp at hq
              have := hb1.size
              exact ⟨by omega, fun hb' => by have := hb1.box.lt q hb'; omega⟩
          clear hs1 hf2 hv2 hfa hb1 hd1 hd0 hck'
          go_wp2_with fail
          go_roundw
          case rel => exact ⟨k + 1, by omega, by go_num, sl1, by rw [show min (k + 1) (r + 1) = k + 1 by omega, List.take_add_one, HX.out]; exact hb2, by rw [show min (k + 1) (r + 1) = k + 1 by omega, List.take_add_one, HX.out]; simpa [u64s] using hs2, hd2⟩
          case measure => simp [intOf]; omega
      · rw [show min k (r + 1) = r + 1 by omega] at *
        go_wp2_with fail
        refine (Put_full B _ 0 0 x (l.take (r + 1)) _ _ hb.box (by have := HL.out; simp; omega)).mono ?_
        rintro e w1 ⟨rfl, hp⟩
        obtain ⟨sl1, hb1, hs1, hd1⟩ := hb.step2 hp hs (fun q hq => (hd q hq).2)
        have hd0 : ∀ q, (Value.slice ao6 (r + 1) cap6).ownBlock = some q → B ≤ q ∧ ¬ bf B sl1 q := fun q hq => ⟨(hd q hq).1, hd1 q hq⟩
        clear hp hb hs hd hck hd1
        have t2 : decide (((r : Int) + 1) < 1 + (r : Int)) = false := by simp; omega
        go_wp2_with fail
        go_roundw
        case rel => exact ⟨k + 1, by omega, by go_num, sl1, by rw [show min (k + 1) (r + 1) = r + 1 by omega]; exact hb1, by rw [show min (k + 1) (r + 1) = r + 1 by omega]; exact ⟨hs1, hd0⟩⟩
        case measure => simp [intOf]; omega
    · obtain rfl : k = n := by omega
      go_wp2_with fail
      obtain ⟨m, hm⟩ : ∃ m, min k (r + 1) = m := ⟨_, rfl⟩
      obtain ⟨L, hL⟩ : ∃ L, l.take m = L := ⟨_, rfl⟩
      have hm2 : m ≤ 32 := by omega
      rw [hm, hL] at hb hs
      rw [hm] at hd hc6 ⊢
      have hLl := Lib.hid (show L.length = m by have := hs.len; simpa [u64s] using this)
      clear hm hL r0
      refine (all_any B _ 0 0 L _ (by have := hLl.out; omega) 0 _ hb.box).mono ?_
      rintro e w2 ⟨v2, rfl, hs2, _, hbel⟩
      have hcut : cutTo 0 L = L := by unfold cutTo; rw [if_neg (by omega)]
      rw [hcut, hLl.out] at hs2
      have hfr : Fr (fun q => wr.heap.size ≤ q) wr w2 := ⟨hbel.os, hbel.tape, hbel.output, hbel.size, fun q hq _ => hbel.block q hq⟩
      have hb2 := hb.keep hfr (fun q hq h => by have := hb.box.lt q hq; omega) (fun q hq => Nat.le_trans hb.size hq)
      have hs6 := hfr.sl hs (fun q hq h => by have := hs.lt q hq; omega)
      clear hcut hfr hbel hb hs hd
      go_wp2_with fail
      refine (Same_yes _ _ m L _ hs2.rd hs6.rd).mono ?_
      rintro e w3 ⟨rfl, q3, rfl⟩
      go_wp2_with fail
      refine (Len_any B _ _ _ _ _ _ (hb2.box.drewN _)).mono ?_
      rintro e w4 ⟨rfl, rfl⟩
      have ht : ((L.length : Int) == (m : Int)) = true := by have := hLl.out; simp; omega
      go_wp2_with fail
      refine (known_any _).mono ?_
      rintro e w5 ⟨rfl, hbel⟩
      go_wp2_with fail
      go_ret
      exact ⟨rfl, by rw [HB.out]; exact (bel_drewN hb2.below q3).trans (hbel.mono hb2.size)⟩
end Go.Proofs.Ytbedgeimpobhdaa
