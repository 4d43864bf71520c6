/- PlainAgain: behind Wait the same messages are examined again, each once; those that came meanwhile, too. -/
import Derived.Test.YtbedgeimpobhdaaKnown
import Derived.Deep.DeepCutAuto
import Derived.Deep.CutBlock
namespace Go.Proofs.Ytbedgeimpobhdaa
open Go.RowKit

def u64s (l : List Int) : List Value := l.map (Value.int .u64)

theorem u64s_one (l : List Int) : ∀ u ∈ u64s l, u.oneCell' = true := ints_oneCell .u64 l

set_option maxHeartbeats 3200000 in
set_option maxRecDepth 100000 in
theorem again_walk (ao0 : Option Addr) (len0 cap0 : Nat) (l0 : List Int) (ao1 : Option Addr) (len1 cap1 : Nat) (l1 : List Int) (stop : Int) (w : World)
    (r0 : Rd w 1 (.slice ao0 len0 cap0) len0 (u64s l0)) (r1 : Rd w 1 (.slice ao1 len1 cap1) len1 (u64s l1)) :
    Calls Try.prog 3 #[.slice ao0 len0 cap0, .slice ao1 len1 cap1, .int .i64 stop] w fun e w' => e = .returned (.bool true) ∧ Below w.heap.size w w' := by
  obtain ⟨B, hB⟩ : ∃ B, w.heap.size = B := ⟨_, rfl⟩
  obtain ⟨i0, hinf, hz0, hz1, hz2⟩ := info_parts Try.info28
  obtain ⟨_, _, hv0, hc0, hm0⟩ := r0.shape
  obtain ⟨_, _, hv1, hc1, hm1⟩ := r1.shape
  simp at hv0 hv1
  obtain ⟨rfl, rfl⟩ := hv0
  obtain ⟨rfl, rfl⟩ := hv1
  unfold maxLen at hm0 hm1
  go_enter Try.func3, Try.ntmps3
  go_wp2_with fail
  refine (New_ok 32 _ (by omega) (by omega)).mono ?_
  rintro e w0 ⟨rfl, h0⟩
  have hb0 := BoxIn.new w 32
  rw [← h0, hB] at hb0
  rw [hB]
  have HB := Lib.hid hB
  clear h0 hB
  go_upto_if 25 with fail
  go_cut [0] (fun s0 wx => wx = w0 ∧ ∃ n0, n0 = min len0 16 ∧ s0 = .slice ao0 n0 cap0)
  case first =>
    go_wp2_with fail
    all_goals (go_meet; refine ⟨rfl, _, ?_, rfl⟩; omega)
  case rest =>
    obtain ⟨rfl, n0, hn0, rfl⟩ := hcut
    go_upto_if 30 with fail
    go_cut [1] (fun s1 wx => wx = wc ∧ ∃ n1, n1 = min len1 16 ∧ s1 = .slice ao1 n1 cap1)
    case first =>
      go_wp2_with fail
      all_goals (go_meet; refine ⟨rfl, _, ?_, rfl⟩; omega)
    case rest =>
      obtain ⟨rfl, n1, hn1, rfl⟩ := hcut
      have hq0 : n0 ≤ 16 ∧ n0 ≤ len0 := by omega
      have hq1 : n1 ≤ 16 ∧ n1 ≤ len1 := by omega
      clear hn0 hn1
      obtain ⟨L, hL⟩ : ∃ L, l0.take n0 = L := ⟨_, rfl⟩
      obtain ⟨M, hM⟩ : ∃ M, l1.take n1 = M := ⟨_, rfl⟩
      have q0 : Rd w 1 (.slice ao0 n0 cap0) n0 (u64s L) := by have := r0.take hq0.2; subst hL; simpa [u64s] using this
      have q1 : Rd w 1 (.slice ao1 n1 cap1) n1 (u64s M) := by have := r1.take hq1.2; subst hM; simpa [u64s] using this
      have hLl : L.length = n0 := by have := q0.len; simpa [u64s] using this
      have hMl : M.length = n1 := by have := q1.len; simpa [u64s] using this
      have HL := Lib.hid hLl
      have HM := Lib.hid hMl
      have hsz : w.heap.size ≤ B := by have := HB.out; omega
      clear hL hM hLl hMl r0 r1
      go_wp2_with fail
      go_loopw [8] (fun s8 wr => ∃ k : Nat, k ≤ n0 ∧ s8 = .int .i64 k ∧ ∃ sl, BoxIn B w wr B 32 0 0 (L.take k) sl) (fun s8 _ => n0 - (intOf s8).toNat)
      case atStart => exact ⟨0, by omega, rfl, _, hb0⟩
      case round =>
        clear hb0
        obtain ⟨k, hk, rfl, sl, hb⟩ := hrel
        by_cases hlt : k < n0
        · obtain ⟨g, off, cap, hv, _, _, hcell⟩ := (q0.below hsz hb.below).at (by omega)
          simp at hv
          obtain ⟨rfl, rfl⟩ := hv
          obtain ⟨x, hx⟩ : ∃ x, L[k]? = some x := ⟨L[k]'(by have := HL.out; omega), List.getElem?_eq_getElem _⟩
          have hck := hcell k (by omega)
          clear hcell
          simp [u64s, hx] at hck
          have HX := Lib.hid hx
          clear hx
          go_wp2_with fail
          refine (Put_room B 32 0 0 x (L.take k) _ _ hb.box (by simp; omega) (by simp; omega)).mono ?_
          rintro e w1 ⟨rfl, hp⟩
          obtain ⟨sl1, hb1⟩ := hb.step hp
          clear hp hb hck
          go_wp2_with fail
          go_roundw
          case rel => exact ⟨k + 1, by omega, by go_num, sl1, by rw [List.take_add_one, HX.out]; exact hb1⟩
          case measure => simp [intOf]; omega
        · obtain rfl : k = n0 := by omega
          go_wp2_with fail
          refine (Count_any stop (k + 1) _ (by omega)).mono ?_
          rintro e w2 ⟨rfl, rfl⟩
          obtain ⟨c, hc, hc2⟩ : ∃ c : Nat, stop % ((k : Int) + 1) = c ∧ c ≤ k := by
            have h1 := Int.emod_nonneg stop (show (k : Int) + 1 ≠ 0 by omega)
            have h2 := Int.emod_lt_of_pos stop (show 0 < (k : Int) + 1 by omega)
            exact ⟨(stop % ((k : Int) + 1)).toNat, by omega, by omega⟩
          rw [hc]
          have hLk : L.take k = L := by rw [List.take_of_length_le (by have := HL.out; omega)]
          rw [hLk] at hb
          clear hc hLk
          go_wp2_with fail
          go_loopw [10, 11, 12] (fun s10 _ _ wr => ∃ j : Nat, j ≤ c ∧ s10 = .int .i64 j ∧ ∃ sl, BoxIn B w wr B 32 j j L sl) (fun s10 _ _ _ => c - (intOf s10).toNat)
          case atStart => exact ⟨0, by omega, rfl, _, hb⟩
          case round =>
            clear hb
            obtain ⟨j, hj, rfl, sl, hb⟩ := hrel
            by_cases hlt : j < c
            · obtain ⟨g, off, cap, hv, _, _, hcell⟩ := (q0.below hsz hb.below).at (by omega)
              simp at hv
              obtain ⟨rfl, rfl⟩ := hv
              obtain ⟨x, hx⟩ : ∃ x, L[j]? = some x := ⟨L[j]'(by have := HL.out; omega), List.getElem?_eq_getElem _⟩
              have HX := Lib.hid hx
              clear hx hcell
              go_wp2_with fail
              refine (Next_more B 32 j j L _ _ hb.box x HX.out (by have := HL.out; omega)).mono ?_
              rintro e w1 ⟨rfl, hp⟩
              obtain ⟨sl1, hb1⟩ := hb.step hp
              obtain ⟨g, off, cap, hv, _, _, hcell⟩ := (q0.below hsz hb1.below).at (by omega)
              simp at hv
              obtain ⟨⟨rfl, rfl⟩, rfl⟩ := hv
              have hck := hcell j (by omega)
              simp [u64s, HX.out] at hck
              clear hp hb hcell
              have hwj : wrap64 ((j : Int) + 1) = ((j + 1 : Nat) : Int) := by unfold wrap64; omega
              rw [hwj] at hb1
              clear hwj
              go_wp2_with fail
              go_roundw
              case rel => exact ⟨j + 1, by omega, by go_num, sl1, hb1⟩
              case measure => simp [intOf]; omega
            · obtain rfl : j = c := by omega
              go_wp2_with fail
              go_loopw [13] (fun s13 wr => ∃ i : Nat, i ≤ n1 ∧ s13 = .int .i64 i ∧ ∃ sl, BoxIn B w wr B 32 j j (L ++ M.take i) sl) (fun s13 _ => n1 - (intOf s13).toNat)
              case atStart => exact ⟨0, by omega, rfl, _, by simpa using hb⟩
              case round =>
                clear hb
                obtain ⟨i, hi, rfl, sl, hb⟩ := hrel
                by_cases hlt : i < n1
                · obtain ⟨g, off, cap, hv, _, _, hcell⟩ := (q1.below hsz hb.below).at (by omega)
                  simp at hv
                  obtain ⟨rfl, rfl⟩ := hv
                  obtain ⟨x, hx⟩ : ∃ x, M[i]? = some x := ⟨M[i]'(by have := HM.out; omega), List.getElem?_eq_getElem _⟩
                  have hck := hcell i (by omega)
                  clear hcell
                  simp [u64s, hx] at hck
                  have HX := Lib.hid hx
                  clear hx
                  go_wp2_with fail
                  refine (Put_room B 32 j j x (L ++ M.take i) _ _ hb.box (by have := HL.out; simp; omega) (by have := HL.out; simp; omega)).mono ?_
                  rintro e w1 ⟨rfl, hp⟩
                  obtain ⟨sl1, hb1⟩ := hb.step hp
                  clear hp hb hck
                  go_wp2_with fail
                  go_roundw
                  case rel => exact ⟨i + 1, by omega, by go_num, sl1, by rw [List.take_add_one, HX.out]; simpa using hb1⟩
                  case measure => simp [intOf]; omega
                · obtain rfl : i = n1 := by omega
                  have hMk : M.take i = M := by rw [List.take_of_length_le (by have := HM.out; omega)]
                  rw [hMk] at hb
                  clear hMk
                  go_wp2_with fail
                  refine (Wait_any B 32 j j _ _ _ hb.box).mono ?_
                  rintro e w1 ⟨rfl, hp⟩
                  obtain ⟨sl1, hb1⟩ := hb.step hp
                  clear hp hb
                  go_wp2_with (at_builtin; refine wpList_append_sl_rd rfl (.tmp 84) (.tmp 85) 22 rfl 28 i0 (.int .u64 0) 1 8 Try.underlying22 hinf hz0 hz1 hz2 rfl (by decide) (.slice none 0 0) 0 [] rfl (Sl.nil _ _ _) _ k (u64s L) rfl (q0.below hsz hb1.below) (u64s_one L) (by unfold maxLen; omega) (by omega) ?nx)
                  case nx =>
                  intro v2 w2 hs2 hf2 hv2
                  have hb2 := hb1.keep hf2 (by simp [Value.ownBlock]) (by simp [Value.ownBlock])
                  have hd2 : ∀ k, v2.ownBlock = some k → ¬ bf B sl1 k := by
                    intro k hk hb'
                    rcases hv2 with h | h
                    · rw [h] at hk; simp [Value.ownBlock] at hk
                    · rw [h] at hk; simp at hk; have := hb1.box.lt k hb'; omega
                  have hB2 : ∀ k, v2.ownBlock = some k → B ≤ k := by
                    intro k hk
                    rcases hv2 with h | h
                    · rw [h] at hk; simp [Value.ownBlock] at hk
                    · rw [h] at hk; simp at hk; have := hb1.size; omega
                  clear hb1 hf2 hv2
                  go_wp2_with (at_builtin; refine wpList_append_sl_rd rfl (.tmp 87) (.tmp 88) 22 rfl 28 i0 (.int .u64 0) 1 8 Try.underlying22 hinf hz0 hz1 hz2 rfl (by decide) v2 _ _ rfl hs2 _ i (u64s M) rfl (q1.below hsz hb2.below) (u64s_one M) (by unfold maxLen; omega) (by omega) ?nx2)
                  case nx2 =>
                  intro v3 w3 hs3 hf3 hv3
                  have hb3 := hb2.keep hf3 (fun k hk hF => hd2 k hF hk) hB2
                  have hd3 : ∀ k, v3.ownBlock = some k → ¬ bf B sl1 k := by
                    intro k hk hb'
                    rcases hv3 with h | h
                    · exact hd2 k (h ▸ hk) hb'
                    · rw [h] at hk; simp at hk; have := hb2.box.lt k hb'; omega
                  have hs4 : Sl w3 28 1 v3 (k + i) (u64s (L ++ M)) := by simpa [u64s] using hs3
                  obtain ⟨ao3, cap3, rfl, hc3, hm3⟩ := hs4.shape
                  unfold maxLen at hm3
                  clear hb2 hf3 hv3 hs3 hd2 hB2 hs2
                  go_wp2_with fail
                  have hLM : (L ++ M).length = k + i := by have := HL.out; have := HM.out; simp; omega
                  have HLM := Lib.hid hLM
                  clear hLM
                  go_loopw [15, 16, 17] (fun s15 _ _ wr => ∃ t : Nat, t ≤ k + i ∧ s15 = .int .i64 t ∧ ∃ sl, BoxIn B w wr B 32 t ((j + t : Nat) : Int) (L ++ M) sl ∧ Sl wr 28 1 (.slice ao3 (k + i) cap3) (k + i) (u64s (L ++ M)) ∧ ∀ q, (Value.slice ao3 (k + i) cap3).ownBlock = some q → ¬ bf B sl q) (fun s15 _ _ _ => k + i - (intOf s15).toNat)
                  case atStart => exact ⟨0, by omega, rfl, _, hb3, hs4, hd3⟩
                  case round =>
                    clear hb3 hs4 hd3
                    obtain ⟨t, ht, rfl, sl, hb, hs, hd⟩ := hrel
                    by_cases hlt : t < k + i
                    · obtain ⟨g, off, cap, cur, hv, _, _, hg, _, _⟩ := hs.blk (by omega)
                      simp at hv
                      obtain ⟨rfl, rfl⟩ := hv
                      obtain ⟨x, hx⟩ : ∃ x, (L ++ M)[t]? = some x := ⟨(L ++ M)[t]'(by have := HLM.out; omega), List.getElem?_eq_getElem _⟩
                      have HX := Lib.hid hx
                      clear hx hg
                      go_wp2_with fail
                      refine (Next_more B 32 t _ _ _ _ hb.box x HX.out (by have := HLM.out; omega)).mono ?_
                      rintro e w4 ⟨rfl, hp⟩
                      obtain ⟨sl4, hb4, hs4, hd4⟩ := hb.step2 hp hs hd
                      have hck := hs4.cell t (by omega)
                      simp only [u64s, List.getElem?_map, HX.out, Option.map_some] at hck
                      clear hp hb hs hd
                      have hwj : wrap64 (((j + t : Nat) : Int) + 1) = ((j + (t + 1) : Nat) : Int) := by unfold wrap64; omega
                      rw [hwj] at hb4
                      clear hwj
                      go_wp2_with fail
                      go_roundw
                      case rel => exact ⟨t + 1, by omega, by go_num, sl4, hb4, hs4, hd4⟩
                      case measure => simp [intOf]; omega
                    · obtain rfl : t = k + i := by omega
                      go_wp2_with fail
                      refine (Next_none B 32 _ _ _ _ _ hb.box (by have := HLM.out; omega)).mono ?_
                      rintro e w4 ⟨rfl, hp⟩
                      obtain ⟨sl4, hb4⟩ := hb.step hp
                      clear hp hb hs hd
                      go_wp2_with fail
                      refine (Examined_any B 32 _ _ _ _ _ hb4.box).mono ?_
                      rintro e w5 ⟨rfl, rfl⟩
                      go_wp2_with fail
                      refine (known_any _).mono ?_
                      rintro e w6 ⟨rfl, hbel⟩
                      go_wp2_with fail
                      go_ret
                      exact ⟨rfl, by rw [HB.out]; exact hb4.below.trans (hbel.mono hb4.size)⟩
end Go.Proofs.Ytbedgeimpobhdaa
