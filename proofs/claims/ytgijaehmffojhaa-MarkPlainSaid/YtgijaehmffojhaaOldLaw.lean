/- MarkOld: a scan that begins at a mark examines just what came behind it. -/
import Derived.Test.YtgijaehmffojhaaAwake
namespace Go.Proofs.Ytgijaehmffojhaa
open Go.RowKit

abbrev u64s (l : List Int) : List Value := l.map (Value.int .u64)

theorem u64s_at {l : List Int} {k : Nat} {x : Int} (h : l[k]? = some x) : (u64s l)[k]? = some (.int .u64 x) := by simp [u64s, h]

theorem map_snd_len {ns : List (Nat × Int)} {l : List Int} (h : ns.map (·.2) = l) : ns.length = l.length := by rw [← h]; simp

set_option maxHeartbeats 3200000 in
set_option maxRecDepth 100000 in
theorem old_walk (a0 : Option Addr) (n0 c0 : Nat) (l0 : List Int) (a1 : Option Addr) (n1 c1 : Nat) (l1 : List Int) (ref : Int) (w : World) (h0 : Rd w 1 (.slice a0 n0 c0) n0 (u64s l0)) (h1 : Rd w 1 (.slice a1 n1 c1) n1 (u64s l1)) :
    Calls Try.prog 5 #[.slice a0 n0 c0, .slice a1 n1 c1, .int .i64 ref] w fun e w' => e = .returned (.bool true) ∧ Below w.heap.size w w' := by
  obtain ⟨B, hB⟩ : ∃ B, w.heap.size = B := ⟨_, rfl⟩
  obtain ⟨_, _, hv0, hc0, hm0⟩ := h0.shape
  obtain ⟨_, _, hv1, hc1, hm1⟩ := h1.shape
  simp at hv0 hv1
  obtain ⟨rfl, rfl⟩ := hv0
  obtain ⟨rfl, rfl⟩ := hv1
  unfold maxLen at hm0 hm1
  go_enter Try.func5, Try.ntmps5
  go_wp2_with fail
  refine (New_ok 32 _ (by omega) (by omega)).mono ?_
  rintro e w1 ⟨rfl, hq, hb⟩
  have hM := MbIn.new hq hb
  rw [hB] at hM ⊢
  have hsz : w.heap.size ≤ B := by omega
  have HB := Lib.hid hB
  clear hq hb hB
  go_upto_if 23 with fail
  go_cut [0] (fun s0 wx => ∃ n l, n ≤ 16 ∧ n ≤ c0 ∧ s0 = .slice a0 n c0 ∧ Rd w 1 (.slice a0 n c0) n (u64s l) ∧ MbIn B w wx B (.slice none 0 0) (Bx.made 32))
  case first =>
    by_cases hn : 16 < n0
    · have ht := h0.take (k := 16) (by omega)
      go_wp2_with fail
      go_meet
      case rel => exact ⟨16, l0.take 16, by omega, by omega, rfl, by rw [u64s, List.map_take]; exact ht, hM⟩
    · go_wp2_with fail
      go_meet
      case rel => exact ⟨n0, l0, by omega, by omega, rfl, h0, hM⟩
  case rest =>
  clear h0
  obtain ⟨n0', l0', hn0, hnc0, rfl, h0, hM⟩ := hcut
  go_upto_if 28 with fail
  go_cut [1] (fun s1 wx => ∃ n l, n ≤ 16 ∧ n ≤ c1 ∧ s1 = .slice a1 n c1 ∧ Rd w 1 (.slice a1 n c1) n (u64s l) ∧ MbIn B w wx B (.slice none 0 0) (Bx.made 32))
  case first =>
    by_cases hn : 16 < n1
    · have ht := h1.take (k := 16) (by omega)
      go_wp2_with fail
      go_meet
      case rel => exact ⟨16, l1.take 16, by omega, by omega, rfl, by rw [u64s, List.map_take]; exact ht, hM⟩
    · go_wp2_with fail
      go_meet
      case rel => exact ⟨n1, l1, by omega, by omega, rfl, h1, hM⟩
  case rest =>
  clear h1 hM
  obtain ⟨n1', l1', hn1, hnc1, rfl, h1, hM⟩ := hcut
  have hl0 : l0'.length = n0' := by have := h0.len; simpa [u64s] using this
  have hl1 : l1'.length = n1' := by have := h1.len; simpa [u64s] using this
  go_wp2_with fail
  refine (Count_any _ 1073741824 _ (by omega)).mono ?_
  rintro e w2 ⟨rfl, rfl⟩
  obtain ⟨rf, hrf⟩ : ∃ r : Int, (ref.tmod 1073741824) % 1073741824 = r := ⟨_, rfl⟩
  have hr0 := Int.emod_nonneg (ref.tmod 1073741824) (show (1073741824 : Int) ≠ 0 by omega)
  have hr1 := Int.emod_lt_of_pos (ref.tmod 1073741824) (show (0 : Int) < 1073741824 by omega)
  rw [hrf] at hr0 hr1 ⊢
  clear hrf
  have HL0 := Lib.hid hl0
  have HL1 := Lib.hid hl1
  clear hl0 hl1
  go_upto_block 0 with fail
  go_cut [] (fun wx => ∃ ns mv, MbIn B w wx B mv ⟨ns, 32, false, 0, 0, [], 0⟩ ∧ Hid (ns.map (·.2) = l0') ∧ ns.length = n0')
  case first =>
    go_wp2_with fail
    go_loopg [37] n0' (fun g s37 wr => ∃ k : Nat, k + g = n0' ∧ s37 = .int .i64 k ∧ ∃ ns mv, MbIn B w wr B mv ⟨ns, 32, false, 0, 0, [], 0⟩ ∧ Hid (ns.map (·.2) = l0'.take k) ∧ ns.length = k)
    case atStart => exact ⟨0, by omega, rfl, [], _, hM, Lib.hid (by simp), rfl⟩
    case round =>
      clear hM
      obtain ⟨k, hk, rfl, ns, mv, hM, hw, hnl⟩ := hrel
      cases gk with
      | zero =>
        obtain rfl : k = n0' := by omega
        go_wp2_with fail
        go_meet
        case rel => exact ⟨ns, mv, hM, Lib.hid (by have := hw.out; rwa [List.take_of_length_le (by have := HL0.out; omega)] at this), hnl⟩
      | succ g =>
        obtain ⟨x, hx⟩ : ∃ x, l0'[k]? = some x := ⟨l0'[k]'(by have := HL0.out; omega), List.getElem?_eq_getElem _⟩
        obtain ⟨b, off, cap', hv', _, _, hcell⟩ := (h0.below hsz hM.below).at (by omega)
        simp at hv'
        obtain ⟨rfl, rfl⟩ := hv'
        have hck := hcell k (by omega)
        rw [u64s_at hx] at hck
        have HX := Lib.hid hx
        clear hcell hx
        go_wp2_with fail
        refine (Put_room B _ _ x _ hM.m (by show ns.length ≤ 1000; omega) (by show (ns.length : Int) < 32; omega)).mono ?_
        rintro e w3 ⟨rfl, N, hp⟩
        obtain ⟨m3, hM3⟩ := hM.step hp
        clear hp hM
        go_wp2_with fail
        go_roundg g
        case measure => omega
        case rel => exact ⟨k + 1, by omega, by go_num, _, _, hM3, Lib.hid (by rw [List.map_append, hw.out, List.take_add_one, HX.out]; rfl), by simp; omega⟩
  case rest =>
  clear hM
  obtain ⟨ns0, mv0, hM, hw0, hnl0⟩ := hcut
  go_wp2_with fail
  obtain ⟨R, hR⟩ : ∃ R, 1 + rf = R := ⟨_, rfl⟩
  rw [hR]
  have hR1 : 1 ≤ R := by omega
  have hR2 : R ≤ 281474976710656 := by omega
  clear hR hr0 hr1
  refine (Mark_new B _ _ R _ hM.m hR1 hR2 (by simp) rfl).mono ?_
  rintro e w3 ⟨rfl, hp⟩
  obtain ⟨mv1, hM1⟩ := hM.step hp
  clear hp hM h0
  go_upto_block 2 with fail
  go_cut [] (fun wx => ∃ ns mv, MbIn B w wx B mv ⟨ns, 32, false, 0, 0, [(R, n0')], 0⟩ ∧ Hid (ns.map (·.2) = l0' ++ l1') ∧ ns.length = n0' + n1')
  case first =>
    go_wp2_with fail
    go_loopg [51] n1' (fun g s51 wr => ∃ k : Nat, k + g = n1' ∧ s51 = .int .i64 k ∧ ∃ ns mv, MbIn B w wr B mv ⟨ns, 32, false, 0, 0, [(R, n0')], 0⟩ ∧ Hid (ns.map (·.2) = l0' ++ l1'.take k) ∧ ns.length = n0' + k)
    case atStart => exact ⟨0, by omega, rfl, ns0, mv1, by rw [← hnl0]; exact hM1, Lib.hid (by simpa using hw0.out), by omega⟩
    case round =>
      clear hM1
      obtain ⟨k, hk, rfl, ns, mv, hM, hw, hnl⟩ := hrel
      cases gk with
      | zero =>
        obtain rfl : k = n1' := by omega
        go_wp2_with fail
        go_meet
        case rel => exact ⟨ns, mv, hM, Lib.hid (by have := hw.out; rwa [List.take_of_length_le (by have := HL1.out; omega)] at this), hnl⟩
      | succ g =>
        obtain ⟨x, hx⟩ : ∃ x, l1'[k]? = some x := ⟨l1'[k]'(by have := HL1.out; omega), List.getElem?_eq_getElem _⟩
        obtain ⟨b, off, cap', hv', _, _, hcell⟩ := (h1.below hsz hM.below).at (by omega)
        simp at hv'
        obtain ⟨rfl, rfl⟩ := hv'
        have hck := hcell k (by omega)
        rw [u64s_at hx] at hck
        have HX := Lib.hid hx
        clear hcell hx
        go_wp2_with fail
        refine (Put_room B _ _ x _ hM.m (by show ns.length ≤ 1000; omega) (by show (ns.length : Int) < 32; omega)).mono ?_
        rintro e w3 ⟨rfl, N, hp⟩
        obtain ⟨m3, hM3⟩ := hM.step hp
        clear hp hM
        go_wp2_with fail
        go_roundg g
        case measure => omega
        case rel => exact ⟨k + 1, by omega, by go_num, _, _, hM3, Lib.hid (by rw [List.map_append, hw.out, List.take_add_one, HX.out]; simp), by simp; omega⟩
  case rest =>
  clear hM1
  obtain ⟨ns1, mv2, hM, hw1, hnl1⟩ := hcut
  have HPL := Lib.hid (show place (·.1) R [(R, n0')] = (0 : Nat) from place_some (e := (R, n0')) rfl rfl (by simp))
  go_wp2_with fail
  refine (Use_some B _ _ R _ hM.m rfl (by simp) 0 n0' R HPL.out rfl).mono ?_
  rintro e w4 ⟨rfl, hp⟩
  obtain ⟨mv4, hM4⟩ := hM.step hp
  clear hp hM HPL
  go_wp2_with fail
  refine (Use_on B _ _ R _ hM4.m rfl).mono ?_
  rintro e w5 ⟨rfl, rfl⟩
  go_upto_block 4 with fail
  go_cut [] (fun wx => ∃ last mv, MbIn B w wx B mv ⟨ns1, 32, true, last, n0', [(R, n0')], (n1' : Int)⟩ ∧ (Bx.cur ⟨ns1, 32, true, last, n0', [(R, n0')], (n1' : Int)⟩) = n0' + n1')
  case first =>
    go_wp2_with fail
    go_loopg [70] n1' (fun g s70 wr => ∃ k : Nat, k + g = n1' ∧ s70 = .int .i64 k ∧ ∃ last mv, MbIn B w wr B mv ⟨ns1, 32, true, last, n0', [(R, n0')], (k : Int)⟩ ∧ (if last ≠ 0 then last else n0') = n0' + k)
    case atStart => exact ⟨0, by omega, rfl, 0, mv4, hM4, by simp⟩
    case round =>
      clear hM4
      obtain ⟨k, hk, rfl, last, mv, hM, hcur⟩ := hrel
      cases gk with
      | zero =>
        obtain rfl : k = n1' := by omega
        go_wp2_with fail
        go_meet
        case rel => exact ⟨last, mv, hM, hcur⟩
      | succ g =>
        obtain ⟨x, hx⟩ : ∃ x, l1'[k]? = some x := ⟨l1'[k]'(by have := HL1.out; omega), List.getElem?_eq_getElem _⟩
        obtain ⟨b, off, cap', hv', _, _, hcell⟩ := (h1.below hsz hM.below).at (by omega)
        simp at hv'
        obtain ⟨rfl, rfl⟩ := hv'
        have hck := hcell k (by omega)
        rw [u64s_at hx] at hck
        have hxn : ∃ bn, ns1[n0' + k]? = some (bn, x) := by
          have h2 : (ns1.map (·.2))[n0' + k]? = some x := by
            rw [hw1.out, List.getElem?_append_right (by have := HL0.out; omega), show n0' + k - l0'.length = k by have := HL0.out; omega, hx]
          rw [List.getElem?_map] at h2
          cases h3 : ns1[n0' + k]? with
          | none => rw [h3] at h2; simp at h2
          | some y =>
            rw [h3] at h2
            simp at h2
            exact ⟨y.1, by rw [← h2]⟩
        have HX := Lib.hid hxn
        clear hcell hx hxn
        have HC := Lib.hid hcur
        clear hcur
        go_wp2_with fail
        refine (Next_any' B _ _ _ hM.m (by show (0 : Int) ≤ k; omega) (by show (k : Int) ≤ _; omega)).mono ?_
        rintro e w6 (⟨b2, y, hy, rfl, hp⟩ | ⟨hle, _⟩)
        rotate_left 1
        · exact absurd hle (by show ¬ ns1.length ≤ (if last ≠ 0 then last else n0'); rw [HC.out]; omega)
        obtain rfl : y = x := by
          obtain ⟨bn, hbn⟩ := HX.out
          have hy' : ns1[if last ≠ 0 then last else n0']? = some (b2, y) := hy
          rw [HC.out, hbn] at hy'
          simp at hy'
          exact hy'.2.symm
        obtain ⟨m6, hM6⟩ := hM.step hp
        clear hp hM hy
        go_wp2_with fail
        go_roundg g
        case measure => omega
        case rel =>
          refine ⟨k + 1, by omega, by go_num, (if last ≠ 0 then last else n0') + 1, m6, ?_, ?_⟩
          · exact hM6
          · rw [if_pos (by omega), HC.out]; omega
  case rest =>
  clear hM4
  obtain ⟨last, mv5, hM, hcur⟩ := hcut
  have HC := Lib.hid hcur
  clear hcur
  go_wp2_with fail
  refine (Next_any' B _ _ _ hM.m (by show (0 : Int) ≤ n1'; omega) (by show (n1' : Int) ≤ _; omega)).mono ?_
  rintro e w6 (⟨b2, y, hy, _⟩ | ⟨hle, rfl, hp⟩)
  · have hy' := (List.getElem?_eq_some_iff.1 hy).1
    rw [HC.out] at hy'
    have : n0' + n1' < ns1.length := hy'
    omega
  obtain ⟨m6, hM6⟩ := hM.step hp
  clear hp hM hle
  go_wp2_with fail
  refine (Ex_any B _ _ _ hM6.m).mono ?_
  rintro e w7 ⟨rfl, rfl⟩
  rw [show Bx.ex _ = (n1' : Int) from rfl]
  go_wp2_with fail
  refine (awake_any _).mono ?_
  rintro e w8 ⟨rfl, hb8⟩
  go_wp2_with fail
  go_ret
  exact ⟨rfl, by rw [HB.out]; exact hM6.below.trans (hb8.mono hM6.size)⟩
end Go.Proofs.Ytgijaehmffojhaa
