/- MarkTakes: a message that is taken leaves all others in their order. -/
import Derived.Test.YtgijaehmffojhaaGather
namespace Go.Proofs.Ytgijaehmffojhaa
open Go.RowKit

theorem map_erase (ns : List (Nat × Int)) (k : Nat) : (ns.eraseIdx k).map (·.2) = (ns.map (·.2)).take k ++ (ns.map (·.2)).drop (k + 1) := by
  rw [List.eraseIdx_eq_take_drop_succ, List.map_append, List.map_take, List.map_drop]

theorem u64s_one (l : List Int) : ∀ u ∈ u64s l, u.oneCell' = true := ints_oneCell .u64 l

set_option maxHeartbeats 3200000 in
set_option maxRecDepth 100000 in
theorem takes_walk (a0 : Option Addr) (n0 c0 : Nat) (l0 : List Int) (which : Int) (w : World) (h0 : Rd w 1 (.slice a0 n0 c0) n0 (u64s l0)) :
    Calls Try.prog 3 #[.slice a0 n0 c0, .int .i64 which] w fun e w' => e = .returned (.bool true) ∧ Below w.heap.size w w' := by
  obtain ⟨i0, hinf, hz0, hz1, hz2⟩ := info_parts Try.info26
  obtain ⟨B, hB⟩ : ∃ B, w.heap.size = B := ⟨_, rfl⟩
  obtain ⟨_, _, hv0, hc0, hm0⟩ := h0.shape
  simp at hv0
  obtain ⟨rfl, rfl⟩ := hv0
  unfold maxLen at hm0
  go_enter Try.func3, Try.ntmps3
  go_wp2_with fail
  refine (New_ok 32 _ (by omega) (by omega)).mono ?_
  rintro e w1 ⟨rfl, hq, hb⟩
  have hM := MbIn.new hq hb
  rw [hB] at hM ⊢
  have hsz : w.heap.size ≤ B := by omega
  have HB := Lib.hid hB
  clear hq hb hB
  go_upto_if 20 with fail
  go_cut [0] (fun s0 wx => ∃ n l, n ≤ 32 ∧ n ≤ c0 ∧ s0 = .slice a0 n c0 ∧ Rd w 1 (.slice a0 n c0) n (u64s l) ∧ MbIn B w wx B (.slice none 0 0) (Bx.made 32))
  case first =>
    by_cases hn : 32 < n0
    · have ht := h0.take (k := 32) (by omega)
      go_wp2_with fail
      go_meet
      case rel => exact ⟨32, l0.take 32, by omega, by omega, rfl, by rw [u64s, List.map_take]; exact ht, hM⟩
    · go_wp2_with fail
      go_meet
      case rel => exact ⟨n0, l0, by omega, by omega, rfl, h0, hM⟩
  case rest =>
  clear h0 hM
  obtain ⟨n, l, hn, hnc, rfl, h0, hM⟩ := hcut
  have hl := h0.len
  have HL := Lib.hid (show l.length = n by simpa [u64s] using hl)
  clear hl
  go_upto_block 0 with fail
  go_cut [] (fun wx => ∃ ns mv, MbIn B w wx B mv ⟨ns, 32, false, 0, 0, [], 0⟩ ∧ Hid (ns.map (·.2) = l) ∧ ns.length = n)
  case first =>
    go_wp2_with fail
    go_loopg [25] n (fun g s25 wr => ∃ k : Nat, k + g = n ∧ s25 = .int .i64 k ∧ ∃ ns mv, MbIn B w wr B mv ⟨ns, 32, false, 0, 0, [], 0⟩ ∧ Hid (ns.map (·.2) = l.take k) ∧ ns.length = k)
    case atStart => exact ⟨0, by omega, rfl, [], _, hM, Lib.hid (by simp), rfl⟩
    case round =>
      clear hM
      obtain ⟨k, hk, rfl, ns, mv, hM, hw, hnl⟩ := hrel
      cases gk with
      | zero =>
        obtain rfl : k = n := by omega
        go_wp2_with fail
        go_meet
        case rel => exact ⟨ns, mv, hM, Lib.hid (by have := hw.out; rwa [List.take_of_length_le (by have := HL.out; omega)] at this), hnl⟩
      | succ g =>
        obtain ⟨x, hx⟩ : ∃ x, l[k]? = some x := ⟨l[k]'(by have := HL.out; omega), List.getElem?_eq_getElem _⟩
        obtain ⟨b, off, cap', hv', _, _, hcell⟩ := (h0.below hsz hM.below).at (by omega)
        simp at hv'
        obtain ⟨rfl, rfl⟩ := hv'
        have hck := hcell k (by omega)
        rw [u64s_at hx] at hck
        have HX := Lib.hid hx
        clear hcell hx
        go_wp2_with fail
        refine (Put_room B _ _ x _ hM.m (by show ns.length ≤ 1000; omega) (by show (ns.length : Int) < 32; omega)).mono ?_
        rintro e w3 ⟨rfl, N, hp⟩
        obtain ⟨m3, hM3⟩ := hM.step hp
        clear hp hM
        go_wp2_with fail
        go_roundg g
        case measure => omega
        case rel => exact ⟨k + 1, by omega, by go_num, _, _, hM3, Lib.hid (by rw [List.map_append, hw.out, List.take_add_one, HX.out]; rfl), by simp; omega⟩
  case rest =>
  clear hM
  obtain ⟨ns, mv, hM, hw, hnl⟩ := hcut
  by_cases hn0 : n = 0
  · subst hn0
    go_wp2_with fail
    refine (Take_none B _ _ _ hM.m rfl).mono ?_
    rintro e w3 ⟨rfl, rfl⟩
    go_wp2_with fail
    refine (awake_any _).mono ?_
    rintro e w4 ⟨rfl, hb4⟩
    go_wp2_with fail
    go_ret
    exact ⟨rfl, by rw [HB.out]; exact hM.below.trans (hb4.mono hM.size)⟩
  go_wp2_with fail
  refine (Count_any which n _ (by omega)).mono ?_
  rintro e w3 ⟨rfl, rfl⟩
  have hr0 := Int.emod_nonneg which (show (n : Int) ≠ 0 by omega)
  have hr1 := Int.emod_lt_of_pos which (show (0 : Int) < n by omega)
  obtain ⟨k, hk⟩ : ∃ k : Nat, which % n = k := ⟨(which % n).toNat, by omega⟩
  rw [hk] at hr0 hr1 ⊢
  clear hk
  have hkn : k < n := by omega
  clear hr0 hr1
  go_upto_block 2 with fail
  go_cut [] (fun wx => ∃ mv, MbIn B w wx B mv ⟨ns, 32, true, k + 1, 0, [], (k : Int) + 1⟩)
  case first =>
    go_wp2_with fail
    go_loopg [11] (k + 1) (fun g s11 wr => ∃ i : Nat, i + g = k + 1 ∧ s11 = .int .i64 i ∧ ∃ mv on, MbIn B w wr B mv ⟨ns, 32, on, i, 0, [], (i : Int)⟩ ∧ (0 < i → on = true))
    case atStart => exact ⟨0, by omega, rfl, mv, false, hM, by omega⟩
    case round =>
      clear hM
      obtain ⟨i, hi, rfl, mv, on, hM, hon⟩ := hrel
      cases gk with
      | zero =>
        obtain rfl : i = k + 1 := by omega
        obtain rfl := hon (by omega)
        go_wp2_with fail
        go_meet
        case rel => exact ⟨mv, by simpa using hM⟩
      | succ g =>
        have hcur : Bx.cur ⟨ns, 32, on, i, 0, [], (i : Int)⟩ = i := by show (if i ≠ 0 then i else 0) = i; split <;> omega
        have HC := Lib.hid hcur
        clear hcur
        go_wp2_with fail
        refine (Next_any' B _ _ _ hM.m (by show (0 : Int) ≤ i; omega) (by show (i : Int) ≤ _; omega)).mono ?_
        rintro e w4 (⟨b, x, hx, rfl, hp⟩ | ⟨hx, _⟩)
        rotate_left 1
        · rw [HC.out] at hx
          have hx' : ns.length ≤ i := hx
          omega
        obtain ⟨mv4, hM4⟩ := hM.step hp
        have hM5 : MbIn B w w4 B mv4 ⟨ns, 32, true, i + 1, 0, [], (i : Int) + 1⟩ := by
          have := hM4
          unfold Bx.told at this
          rw [HC.out] at this
          exact this
        clear hp hM hx hM4
        go_wp2_with fail
        go_roundg g
        case measure => omega
        case rel => exact ⟨i + 1, by omega, by go_num, mv4, true, by simpa using hM5, fun _ => rfl⟩
  case rest =>
  clear hM
  obtain ⟨mv2, hM⟩ := hcut
  obtain ⟨⟨bn, x⟩, hbn⟩ : ∃ m, ns[k]? = some m := ⟨ns[k]'(by omega), List.getElem?_eq_getElem _⟩
  have hx : l[k]? = some x := by rw [← hw.out]; simp [hbn]
  have HBN := Lib.hid hbn
  have HX := Lib.hid hx
  clear hbn hx
  go_wp2_with fail
  refine (Take_some B _ _ _ hM.m (by show 0 < k + 1; omega) (by show ns.length ≤ 1000; omega) bn x (by show ns[k + 1 - 1]? = _; rw [Nat.add_sub_cancel]; exact HBN.out)).mono ?_
  rintro e w5 ⟨rfl, hp⟩
  obtain ⟨mv5, hM5⟩ := hM.step hp
  clear hp hM
  have hM6 : MbIn B w w5 B mv5 ⟨ns.eraseIdx k, 32, false, 0, 0, [], (k : Int) + 1⟩ := by
    have := hM5
    unfold Bx.taken at this
    rw [show k + 1 - 1 = k from Nat.add_sub_cancel ..] at this
    exact this
  clear hM5
  have hwords : Hid (Bx.words ⟨ns.eraseIdx k, 32, false, 0, 0, [], (k : Int) + 1⟩ = l.take k ++ l.drop (k + 1)) := by
    show (ns.eraseIdx k).map (·.2) = _
    rw [map_erase, hw.out]
  have hlr : (l.take k ++ l.drop (k + 1)).length = k + (n - (k + 1)) := by have := HL.out; simp; omega
  have HLR := Lib.hid hlr
  clear hlr
  have hR5 := h0.below hsz hM6.below
  obtain ⟨b, off, cap', hv', _, _, hcell⟩ := hR5.at (by omega)
  simp at hv'
  obtain ⟨rfl, rfl⟩ := hv'
  have hq1 := hR5.take (k := k) (by omega)
  rw [show (u64s l).take (k * 1) = u64s (l.take k) by simp [u64s, List.map_take]] at hq1
  have hkc : (k : Int) ≤ c0 := by omega
  clear hcell
  go_wp2_with (at_builtin; refine wpList_append_sl_rd rfl (.tmp 63) (.tmp 66) 22 rfl 26 i0 (.int .u64 0) 1 8 Try.underlying22 hinf hz0 hz1 hz2 rfl (by decide) (.slice none 0 0) 0 [] rfl (Sl.nil _ _ _) _ k (u64s (l.take k)) rfl hq1 (u64s_one _) (by unfold maxLen; omega) (by omega) ?nx)
  case nx =>
  intro v3 w7 hs3 hf3 hv3
  have hf4 : Fr (fun _ => False) w5 w7 := hf3.mono (by simp [Value.ownBlock])
  have hM7 := hM6.keep hf4 (fun _ _ h => h) (fun _ h => h.elim)
  have hn3 : ∀ k, v3.ownBlock = some k → w5.heap.size ≤ k := by
    intro k hk
    rcases hv3 with h | h
    · rw [h] at hk; simp [Value.ownBlock] at hk
    · rw [h] at hk; simp at hk; omega
  have hs4 : Sl w7 26 1 v3 k (u64s (l.take k)) := by simpa using hs3
  clear hs3 hf3 hv3 hq1 hR5
  have hR7 := h0.below hsz hM7.below
  have hwr : IntKind.i64.wrap ((k : Int) + 1) = (k : Int) + 1 := by rw [IntKind.wrap_i64]; omega
  have hp0 : (0 : Int) ≤ (k : Int) + 1 := by omega
  have hp1 : (k : Int) + 1 ≤ (n : Int) := by omega
  have hp2 : ((k : Int) + 1).toNat = k + 1 := by omega
  obtain ⟨A, hA, q2⟩ : ∃ A, (if c0 = k + 1 then some (⟨b, off, none⟩ : Addr) else some ⟨b, off + (k + 1), none⟩) = A ∧ Hid (Rd w7 1 (.slice A (n - (k + 1)) (c0 - (k + 1))) (n - (k + 1)) (u64s (l.drop (k + 1)))) := by
    have := hR7.drop (show k + 1 ≤ n by omega)
    rw [Nat.mul_one] at this
    exact ⟨_, rfl, Lib.hid (by simpa [u64s, List.map_drop] using this)⟩
  go_wp2_with (at_builtin; refine wpList_append_sl_rd rfl (.tmp 68) (.tmp 72) 22 rfl 26 i0 (.int .u64 0) 1 8 Try.underlying22 hinf hz0 hz1 hz2 rfl (by decide) v3 _ _ rfl hs4 _ (n - (k + 1)) (u64s (l.drop (k + 1))) rfl q2.out (u64s_one _) (by unfold maxLen; omega) (by omega) ?nx2)
  case nx2 =>
  intro v5 w8 hs5 hf6 hv5
  have hf7 : Fr (fun _ => False) w5 w8 := hf4.trans' hf6 (fun i hi => Or.inr (hn3 i hi))
  have hM8 := hM6.keep hf7 (fun _ _ h => h) (fun _ h => h.elim)
  have hs6 : Sl w8 26 1 v5 (k + (n - (k + 1))) (u64s (l.take k ++ l.drop (k + 1))) := by
    simpa [u64s] using hs5
  clear hs4 hs5 hf6 hv5 hf4 hn3 hM7 hR7 hwr hp0 hp1 hp2 hA q2 hM6
  have hR8 := h0.below hsz hM8.below
  obtain ⟨b, off, cap', hv', _, _, hcell⟩ := hR8.at (by omega)
  simp at hv'
  obtain ⟨⟨rfl, rfl⟩, rfl⟩ := hv'
  have hck := hcell k (by omega)
  rw [u64s_at HX.out] at hck
  clear hcell hR8
  go_wp2_with fail
  refine (all_any B _ _ 0 _ hM8.m (by show (ns.eraseIdx k).length ≤ 64; rw [List.length_eraseIdx_of_lt (by omega)]; omega)).mono ?_
  rintro e w9 ⟨v9, rfl, hs9, _, hb9⟩
  rw [show cutTo 0 _ = _ from by unfold cutTo; exact if_neg (by omega), hwords.out, HLR.out] at hs9
  have hM9 := hM8.bel hb9
  have hs10 : Sl w9 26 1 v5 (k + (n - (k + 1))) (u64s (l.take k ++ l.drop (k + 1))) := hs6.keep fun q hq => hb9.block q (hs6.lt q hq)
  clear hM8 hb9 hs6 hf7
  go_wp2_with fail
  refine (Same_yes _ _ _ _ _ hs9.rd hs10.rd).mono ?_
  rintro e w10 ⟨rfl, q10, rfl⟩
  have hM10 := hM9.bel (below_drewN w9 q10)
  clear hM9 hs9 hs10
  go_wp2_with fail
  refine (awake_any _).mono ?_
  rintro e w11 ⟨rfl, hb11⟩
  go_wp2_with fail
  go_ret
  exact ⟨rfl, by rw [HB.out]; exact hM10.below.trans (hb11.mono hM10.size)⟩
end Go.Proofs.Ytgijaehmffojhaa
