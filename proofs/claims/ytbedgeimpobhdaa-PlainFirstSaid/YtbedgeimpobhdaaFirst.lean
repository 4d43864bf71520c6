/- PlainFirst: a scan takes the first message that is meant, and leaves the others in their order. -/
import Derived.Test.YtbedgeimpobhdaaKnown
import Derived.Test.YtbedgeimpobhdaaAll
import Derived.Test.YtbedgeimpobhdaaTake
import Derived.Deep.DeepCutAuto
namespace Go.Proofs.Ytbedgeimpobhdaa
open Go.RowKit

/-- The place of the first one that is meant, among the first k: -1, if it is not there. -/
def fst (i k : Nat) : Int := if i < k then i else -1
theorem fst_no {i k : Nat} (h : k ≤ i) : fst i k = -1 := by unfold fst; rw [if_neg (by omega)]
theorem fst_yes {i k : Nat} (h : i < k) : fst i k = i := by unfold fst; rw [if_pos h]

/-- There is a first one; or all are passed over. -/
theorem first_at (m : Int) : ∀ (l : List Int), ∃ i, i ≤ l.length ∧ (∀ j x, j < i → l[j]? = some x → x ≠ m) ∧ (i < l.length → l[i]? = some m)
  | [] => ⟨0, by simp, by simp, by simp⟩
  | y :: l => by
    by_cases h : y = m
    · exact ⟨0, by simp, by simp, by simp [h]⟩
    · obtain ⟨i, h1, h2, h3⟩ := first_at m l
      refine ⟨i + 1, by simpa using h1, fun j x hj hx => ?_, fun hi => by simpa using h3 (by simpa using hi)⟩
      cases j with
      | zero => simp at hx; rw [← hx]; exact h
      | succ j => exact h2 j x (by omega) (by simpa using hx)

set_option maxHeartbeats 6400000 in
set_option maxRecDepth 100000 in
theorem first_walk (ao0 : Option Addr) (len0 cap0 : Nat) (l0 : List Int) (meant : Int) (w : World)
    (r0 : Rd w 1 (.slice ao0 len0 cap0) len0 (u64s l0)) :
    Calls Try.prog 5 #[.slice ao0 len0 cap0, .int .u64 meant] w fun e w' => e = .returned (.bool true) ∧ Below w.heap.size w w' := by
  obtain ⟨B, hB⟩ : ∃ B, w.heap.size = B := ⟨_, rfl⟩
  obtain ⟨i0, hinf, hz0, hz1, hz2⟩ := info_parts Try.info28
  obtain ⟨_, _, hv0, hc0, hm0⟩ := r0.shape
  simp at hv0
  obtain ⟨rfl, rfl⟩ := hv0
  unfold maxLen at hm0
  go_enter Try.func5, Try.ntmps5
  go_wp2_with fail
  refine (New_ok 32 _ (by omega) (by omega)).mono ?_
  rintro e w0 ⟨rfl, h0⟩
  have hb0 := BoxIn.new w 32
  rw [← h0, hB] at hb0
  rw [hB]
  have HB := Lib.hid hB
  clear h0 hB
  go_upto_if 19 with fail
  go_cut [0] (fun s0 wx => wx = w0 ∧ ∃ n, n = min len0 32 ∧ s0 = .slice ao0 n cap0)
  case first =>
    go_wp2_with fail
    all_goals (go_meet; refine ⟨rfl, _, ?_, rfl⟩; omega)
  case rest =>
    obtain ⟨rfl, n, hn0, rfl⟩ := hcut
    have hq0 : n ≤ 32 ∧ n ≤ len0 := by omega
    clear hn0
    obtain ⟨L, hL⟩ : ∃ L, l0.take n = L := ⟨_, rfl⟩
    have q0 : Rd w 1 (.slice ao0 n cap0) n (u64s L) := by have := r0.take hq0.2; subst hL; simpa [u64s] using this
    have HL := Lib.hid (show L.length = n by have := q0.len; simpa [u64s] using this)
    have hsz : w.heap.size ≤ B := by have := HB.out; omega
    obtain ⟨i, hi1, hi2, hi3⟩ := first_at meant L
    have hin : i ≤ n := by have := HL.out; omega
    have HI2 := Lib.hid hi2
    have HI3 := Lib.hid hi3
    clear hL r0 hi1 hi2 hi3
    go_wp2_with fail
    go_loopw [6, 7] (fun s6 s7 wr => ∃ k : Nat, k ≤ n ∧ s7 = .int .i64 k ∧ s6 = .int .i64 (fst i k) ∧ ∃ sl, BoxIn B w wr B 32 0 0 (L.take k) sl) (fun _ s7 _ => n - (intOf s7).toNat)
    case atStart => exact ⟨0, by omega, rfl, by rw [fst_no (by omega)], _, hb0⟩
    case round =>
      clear hb0
      obtain ⟨k, hk, rfl, rfl, sl, hb⟩ := hrel
      by_cases hlt : k < n
      · obtain ⟨g, off, cap, hv, _, _, hcell⟩ := (q0.below hsz hb.below).at (by omega)
        simp at hv
        obtain ⟨rfl, rfl⟩ := hv
        obtain ⟨x, hx⟩ : ∃ x, L[k]? = some x := ⟨L[k]'(by have := HL.out; omega), List.getElem?_eq_getElem _⟩
        have hck := hcell k (by omega)
        clear hcell
        rw [u64s_at hx] at hck
        have HX := Lib.hid hx
        clear hx
        go_wp2_with fail
        refine (Put_room B 32 0 0 x (L.take k) _ _ hb.box (by simp; omega) (by simp; omega)).mono ?_
        rintro e w1 ⟨rfl, hp⟩
        obtain ⟨sl1, hb1⟩ := hb.step hp
        obtain ⟨g', off', cap', hv', _, _, hcell'⟩ := (q0.below hsz hb1.below).at (by omega)
        simp at hv'
        obtain ⟨⟨rfl, rfl⟩, rfl⟩ := hv'
        have hck' := hcell' k (by omega)
        rw [u64s_at HX.out] at hck'
        clear hp hb hck hcell'
        rcases Nat.lt_trichotomy k i with hki | hki | hki
        · have hfk := fst_no (show k ≤ i by omega)
          rw [hfk]
          have hne : (x == meant) = false := by simpa using HI2.out k x hki HX.out
          clear hfk
          go_wp2_with fail
          go_roundw
          case rel => exact ⟨k + 1, by omega, by go_num, by rw [fst_no (by omega)], sl1, by rw [List.take_add_one, HX.out]; exact hb1⟩
          case measure => simp [intOf]; omega
        · subst hki
          have hfk := fst_no (show k ≤ k by omega)
          rw [hfk]
          obtain rfl : x = meant := by have := HI3.out (by have := HL.out; omega); rw [HX.out] at this; simpa using this
          clear hfk
          go_wp2_with fail
          go_roundw
          case rel => exact ⟨k + 1, by omega, by go_num, by rw [fst_yes (by omega)], sl1, by rw [List.take_add_one, HX.out]; exact hb1⟩
          case measure => simp [intOf]; omega
        · have hfk := fst_yes hki
          rw [hfk]
          clear hfk
          go_wp2_with fail
          go_roundw
          case rel => exact ⟨k + 1, by omega, by go_num, by rw [fst_yes (by omega)], sl1, by rw [List.take_add_one, HX.out]; exact hb1⟩
          case measure => simp [intOf]; omega
      · obtain rfl : k = n := by omega
        have hLk : L.take k = L := by rw [List.take_of_length_le (by have := HL.out; omega)]
        rw [hLk] at hb
        clear hLk
        by_cases hik : i < k
        · rw [fst_yes hik]
          go_wp2_with fail
          go_loopw [8, 9, 10] (fun s8 _ _ wr => ∃ t : Nat, t ≤ i ∧ s8 = .int .i64 t ∧ ∃ sl, BoxIn B w wr B 32 t (t : Int) L sl) (fun s8 _ _ _ => i - (intOf s8).toNat)
          case atStart => exact ⟨0, by omega, rfl, _, hb⟩
          case round =>
            clear hb
            obtain ⟨t, ht, rfl, sl, hb⟩ := hrel
            by_cases hti : t < i
            · obtain ⟨x, hx⟩ : ∃ x, L[t]? = some x := ⟨L[t]'(by have := HL.out; omega), List.getElem?_eq_getElem _⟩
              have hne : (x == meant) = false := by simpa using HI2.out t x hti hx
              have HX := Lib.hid hx
              clear hx
              have hte : (t : Int) ≤ (k : Int) := by omega
              go_wp2_with fail
              refine (Next_more B 32 t t L _ _ hb.box x HX.out (by have := HL.out; omega)).mono ?_
              rintro e w1 ⟨rfl, hp⟩
              obtain ⟨sl1, hb1⟩ := hb.step hp
              have hwj : wrap64 ((t : Int) + 1) = ((t + 1 : Nat) : Int) := by unfold wrap64; omega
              rw [hwj] at hb1
              clear hp hb hwj
              go_wp2_with fail
              go_roundw
              case rel => exact ⟨t + 1, by omega, by go_num, sl1, hb1⟩
              case measure => simp [intOf]; omega
            · obtain rfl : t = i := by omega
              have hti2 : (t : Int) ≤ (k : Int) := by omega
              have hmt := Lib.hid (HI3.out (by have := HL.out; omega))
              go_wp2_with fail
              refine (Next_more B 32 t t L _ _ hb.box meant hmt.out (by have := HL.out; omega)).mono ?_
              rintro e w1 ⟨rfl, hp⟩
              obtain ⟨sl1, hb1⟩ := hb.step hp
              clear hp hb
              go_wp2_with fail
              refine (Take_some B 32 t _ L _ _ hb1.box meant hmt.out (by have := HL.out; omega)).mono ?_
              rintro e w2 ⟨rfl, hp⟩
              obtain ⟨sl2, hb2⟩ := hb1.step hp
              clear hp hb1
              obtain ⟨g, off, cap, hv, _, _, _⟩ := (q0.below hsz hb2.below).at (by omega)
              simp at hv
              obtain ⟨rfl, rfl⟩ := hv
              have q1 : Hid (Rd w2 1 (.slice (some ⟨g, off, none⟩) t cap0) t (u64s (L.take t))) := Lib.hid (by have := (q0.take (show t ≤ k by omega)).below hsz hb2.below; simpa [u64s] using this)
              obtain ⟨A, hA, q2⟩ : ∃ A, (if cap0 = t + 1 then some (⟨g, off, none⟩ : Addr) else some ⟨g, off + (t + 1), none⟩) = A ∧ Hid (Rd w 1 (.slice A (k - (t + 1)) (cap0 - (t + 1))) (k - (t + 1)) (u64s (L.drop (t + 1)))) := by
                have := q0.drop (show t + 1 ≤ k by omega)
                rw [Nat.mul_one] at this
                exact ⟨_, rfl, Lib.hid (by simpa [u64s] using this)⟩
              have hp0 : (0 : Int) ≤ (t : Int) + 1 := by omega
              have hp1 : (t : Int) + 1 ≤ (k : Int) := by omega
              have hp2 : ((t : Int) + 1).toNat = t + 1 := by omega
              go_wp2_with (at_builtin; refine wpList_append_sl_rd rfl (.tmp 88) (.tmp 91) 22 rfl 28 i0 (.int .u64 0) 1 8 Try.underlying22 hinf hz0 hz1 hz2 rfl (by decide) (.slice none 0 0) 0 [] rfl (Sl.nil _ _ _) _ t (u64s (L.take t)) rfl ?rd1 (u64s_one _) (by unfold maxLen; omega) (by omega) ?nx)
              case rd1 => exact q1.out
              case nx =>
              intro v3 w3 hs3 hf3 hv3
              have hb3 := hb2.keep hf3 (by simp [Value.ownBlock]) (by simp [Value.ownBlock])
              have hd3 : ∀ q, v3.ownBlock = some q → B ≤ q ∧ ¬ bf B sl2 q := by
                intro q hq
                rcases hv3 with h | h
                · rw [h] at hq; simp [Value.ownBlock] at hq
                · rw [h] at hq; simp at hq
                  have := hb2.size
                  exact ⟨by omega, fun hb' => by have := hb2.box.lt q hb'; omega⟩
              clear hb2 hf3 hv3
              go_wp2_with (at_builtin; refine wpList_append_sl_rd rfl (.tmp 93) (.tmp 97) 22 rfl 28 i0 (.int .u64 0) 1 8 Try.underlying22 hinf hz0 hz1 hz2 rfl (by decide) v3 _ _ rfl hs3 _ (k - (t + 1)) (u64s (L.drop (t + 1))) rfl ?rd2 (u64s_one _) (by unfold maxLen; omega) (by omega) ?nx2)
              case rd2 => exact q2.out.below hsz hb3.below
              case nx2 =>
              intro v4 w4 hs4 hf4 hv4
              have hb4 := hb3.keep hf4 (fun q hq hF => (hd3 q hF).2 hq) (fun q hq => (hd3 q hq).1)
              have hs5 : Sl w4 28 1 v4 (k - 1) (u64s (L.take t ++ L.drop (t + 1))) := by
                rw [show k - 1 = 0 + t + (k - (t + 1)) by omega]
                simpa [u64s] using hs4
              have hlen : (L.take t ++ L.drop (t + 1)).length = k - 1 := by have := HL.out; simp; omega
              obtain ⟨R, hR⟩ : ∃ R, L.take t ++ L.drop (t + 1) = R := ⟨_, rfl⟩
              rw [hR] at hb4 hs5 hlen
              have HR := Lib.hid hlen
              clear hb3 hf4 hv4 hs3 hs4 hR hlen hd3 hA q2 q1
              go_wp2_with fail
              refine (all_any B _ 0 _ R _ (by have := HR.out; omega) 0 _ hb4.box).mono ?_
              rintro e w5 ⟨v5, rfl, hs6, _, hbel⟩
              have hcut : cutTo 0 R = R := by unfold cutTo; rw [if_neg (by omega)]
              rw [hcut, HR.out] at hs6
              have hs7 := (bel_fr hbel).sl hs5 (fun q hq h => by have := hs5.lt q hq; omega)
              have hb5 := hb4.keep (bel_fr hbel) (fun q hq h => by have := hb4.box.lt q hq; omega) (fun q hq => Nat.le_trans hb4.size hq)
              clear hcut hbel hs5 hb4
              go_wp2_with fail
              refine (Same_yes _ _ (k - 1) R _ hs6.rd hs7.rd).mono ?_
              rintro e w6 ⟨rfl, q6, rfl⟩
              go_wp2_with fail
              refine (known_any _).mono ?_
              rintro e w7 ⟨rfl, hbel⟩
              go_wp2_with fail
              go_ret
              exact ⟨rfl, by rw [HB.out]; exact (bel_drewN hb5.below q6).trans (hbel.mono hb5.size)⟩
        · obtain rfl : i = k := by omega
          rw [fst_no (Nat.le_refl _)]
          go_wp2_with fail
          go_loopw [8, 9, 10] (fun s8 _ _ wr => ∃ t : Nat, t ≤ i ∧ s8 = .int .i64 t ∧ ∃ sl, BoxIn B w wr B 32 t (t : Int) L sl) (fun s8 _ _ _ => i - (intOf s8).toNat)
          case atStart => exact ⟨0, by omega, rfl, _, hb⟩
          case round =>
            clear hb
            obtain ⟨t, ht, rfl, sl, hb⟩ := hrel
            by_cases hti : t < i
            · obtain ⟨x, hx⟩ : ∃ x, L[t]? = some x := ⟨L[t]'(by have := HL.out; omega), List.getElem?_eq_getElem _⟩
              have hne : (x == meant) = false := by simpa using HI2.out t x hti hx
              have HX := Lib.hid hx
              clear hx
              have hte : (t : Int) ≤ (i : Int) := by omega
              go_wp2_with fail
              refine (Next_more B 32 t t L _ _ hb.box x HX.out (by have := HL.out; omega)).mono ?_
              rintro e w1 ⟨rfl, hp⟩
              obtain ⟨sl1, hb1⟩ := hb.step hp
              have hwj : wrap64 ((t : Int) + 1) = ((t + 1 : Nat) : Int) := by unfold wrap64; omega
              rw [hwj] at hb1
              clear hp hb hwj
              go_wp2_with fail
              go_roundw
              case rel => exact ⟨t + 1, by omega, by go_num, sl1, hb1⟩
              case measure => simp [intOf]; omega
            · obtain rfl : t = i := by omega
              go_wp2_with fail
              refine (Next_none B 32 _ _ L _ _ hb.box (by have := HL.out; omega)).mono ?_
              rintro e w1 ⟨rfl, hp⟩
              obtain ⟨sl1, hb1⟩ := hb.step hp
              clear hp hb
              go_wp2_with fail
              refine (Examined_any B 32 _ _ _ _ _ hb1.box).mono ?_
              rintro e w2 ⟨rfl, rfl⟩
              go_wp2_with fail
              refine (all_any B _ _ _ L _ (by have := HL.out; omega) 0 _ hb1.box).mono ?_
              rintro e w5 ⟨v5, rfl, hs6, _, hbel⟩
              have hcut : cutTo 0 L = L := by unfold cutTo; rw [if_neg (by omega)]
              rw [hcut, HL.out] at hs6
              have hb5 := hb1.keep (bel_fr hbel) (fun q hq h => by have := hb1.box.lt q hq; omega) (fun q hq => Nat.le_trans hb1.size hq)
              clear hcut hbel hb1
              go_wp2_with fail
              refine (Same_yes _ _ t L _ hs6.rd (q0.below hsz hb5.below)).mono ?_
              rintro e w6 ⟨rfl, q6, rfl⟩
              go_wp2_with fail
              refine (known_any _).mono ?_
              rintro e w7 ⟨rfl, hbel⟩
              go_wp2_with fail
              go_ret
              exact ⟨rfl, by rw [HB.out]; exact (bel_drewN hb5.below q6).trans (hbel.mono hb5.size)⟩
end Go.Proofs.Ytbedgeimpobhdaa
