/- EtfCut: what is written, cut anywhere, is told so; and so are bytes behind it. -/
import Derived.Test.YtkhjdcnlpablkaaDoorAw
import Derived.Test.YtkhjdcnlpablkaaDoorLent
namespace Go.Proofs.YtkhjdcnlpablkaaDoor
open Go.RowKit
open Go.Lib (byteCells)
set_option linter.unusedVariables false

theorem dec_more {t : List Ce} (h : rightT t = (0, 0)) (hk : ∀ c ∈ t, c.i64) (x : UInt8) : decD (encV t ++ [x]) = .bad 63 (encV t).length := by
  obtain ⟨h1, h2, h3⟩ := termOf_ok h
  have hs : (termOf t).sz ≤ 1024 := by unfold T.sz; rw [h1]; exact h3
  have hz := enc_size h2 hs
  have hd := dec_enc h2 (fun c hc => hk c (by rw [h1] at hc; exact hc)) hs [x] (by simp; omega)
  rw [if_neg (by simp)] at hd
  rw [encV_ok h, List.cons_append, hd, List.length_cons, Nat.add_comm]
theorem byteCells_take (l : List UInt8) (k : Nat) : (byteCells l).take (k * 1) = byteCells (l.take k) := by
  unfold byteCells
  rw [Nat.mul_one, List.map_take]
theorem rd_take {w : World} {ao : Option Addr} {cap : Nat} {l : List UInt8} (h : Rd w 1 (.slice ao l.length cap) l.length (byteCells l)) {k : Nat} (hk : k ≤ l.length) : Rd w 1 (.slice ao (l.take k).length cap) (l.take k).length (byteCells (l.take k)) := by
  have := h.take hk
  rw [byteCells_take] at this
  rw [show (l.take k).length = k by rw [List.length_take]; omega]
  exact this

set_option maxHeartbeats 1600000 in
set_option maxRecDepth 100000 in
theorem cutl_bad (t : List Ce) (n m : Int) (tv : Value) (hk : OkCes t) (w : World) (hr1 : Rd w 3 tv t.length (cvs t)) (hn1 : -9223372036854775808 ≤ n) (hn2 : n ≤ 9223372036854775807) (hm1 : 0 ≤ m) (hm2 : m < 256) (hT : Lib.Utf8Tabs 0 1 w) (h0 : ¬ (rightT t).1 = 0) :
    Calls Tryd.prog 6 #[tv, .int .i64 n, .int .u8 m] w fun e w' => e = .returned (.bool true) ∧ Below w.heap.size w w' := by
  have HT : Hid (∀ W, Below w.heap.size w W → Lib.Utf8Tabs 0 1 W) := Lib.hid (fun W h => tabs_below hT (Nat.le_refl _) h)
  have HE1 := Lib.hid (Encode_any t tv hk w hr1 hT)
  obtain ⟨e1, he1⟩ : ∃ e1, (rightT t).1 = e1 := ⟨_, rfl⟩
  rw [he1] at h0 HE1
  have q1 : ((e1 : Int) == 0) = false := by simp; omega
  have q2 : ((e1 : Int) != 0) = true := by simp; omega
  clear h0 he1 hr1 hT hk
  go_enter Tryd.func6, Tryd.ntmps6
  go_wp2_with fail
  refine (HE1.out).mono ?_
  rintro e w1 ⟨v1, rfl, hb1, hbe1⟩
  have HBE1 := Lib.hid hbe1
  have HAW := Lib.hid (awake_any w1 (fun W hW => HT.out W (hbe1.trans (hW.mono hbe1.size))))
  obtain ⟨ao1, cap1, rfl, _, _⟩ := hb1.shape
  clear hb1 hbe1 HE1
  go_wp2_with fail
  refine (HAW.out).mono ?_
  rintro e w2 ⟨rfl, hbe2⟩
  have HBE2 := Lib.hid (HBE1.out.trans (hbe2.mono HBE1.out.size))
  clear hbe2 HAW
  go_wp2_with fail
  go_ret
  exact ⟨rfl, HBE2.out⟩

set_option maxHeartbeats 1600000 in
set_option maxRecDepth 100000 in
theorem cutl_zero (t : List Ce) (n m : Int) (tv : Value) (hk : OkCes t) (w : World) (hr1 : Rd w 3 tv t.length (cvs t)) (hn1 : -9223372036854775808 ≤ n) (hn2 : n ≤ 9223372036854775807) (hm1 : 0 ≤ m) (hm2 : m < 256) (hT : Lib.Utf8Tabs 0 1 w) (h0 : (rightT t).1 = 0) (hc : countV n (((encV t).length + 1 : Nat) : Int) = 0) :
    Calls Tryd.prog 6 #[tv, .int .i64 n, .int .u8 m] w fun e w' => e = .returned (.bool true) ∧ Below w.heap.size w w' := by
  have HT : Hid (∀ W, Below w.heap.size w W → Lib.Utf8Tabs 0 1 W) := Lib.hid (fun W h => tabs_below hT (Nat.le_refl _) h)
  have HE1 := Lib.hid (Encode_any t tv hk w hr1 hT)
  have hr := right_zero h0
  have hv := enc_dec hr hk.num
  rw [h0] at HE1
  obtain ⟨k, hkk⟩ : ∃ k : Nat, countV n ((encV t).length + 1 : Nat) = (k : Int) := by
    have := (countV_val (n := n) (m := (((encV t).length + 1 : Nat) : Int)) (by omega)).1
    exact ⟨(countV n (((encV t).length + 1 : Nat) : Int)).toNat, by omega⟩
  have hkl : k ≤ (encV t).length := by
    have := (countV_val (n := n) (m := (((encV t).length + 1 : Nat) : Int)) (by omega)).2
    omega
  have HV := Lib.hid hv
  have HMORE := Lib.hid (dec_more hr hk.num (b8 m))
  obtain ⟨E, hE⟩ : ∃ E, encV t = E := ⟨_, rfl⟩
  rw [hE] at HE1 HV HMORE hkl hkk
  have hlen := HV.out.2
  have H19 : Hid (∀ W : World, Calls Tryd.prog 19 #[.int .i64 n, .int .i64 ((E.length : Int) + 1)] W fun e w' => e = .returned (.int .i64 (k : Int)) ∧ Below W.heap.size W w') := Lib.hid (fun W => by
    have := count_any n (((E.length + 1 : Nat)) : Int) W (by omega) (by omega) hn1 hn2
    rw [hkk] at this
    exact this)
  have hcase : k = 0 := by have := hc; rw [hE, hkk] at this; omega
  subst hcase
  have hpos : 0 < E.length := by rw [← hE, encV_ok hr]; simp
  have HD : Hid (decD (E.take 0) = .bad 60 0) := Lib.hid dec_cut0
  clear hr1 hT hk h0 hr hv hE hkk hc hn1 hn2
  go_enter Tryd.func6, Tryd.ntmps6
  go_wp2_with fail
  refine (HE1.out).mono ?_
  rintro e w1 ⟨v1, rfl, hb1, hbe1⟩
  have HBE1 := Lib.hid hbe1
  have HB1 := Lib.hid hb1
  have H19b := Lib.hid (H19.out w1)
  obtain ⟨ao1, cap1, rfl, hc1, hm3⟩ := hb1.shape
  unfold maxLen at hm3
  clear hb1 hbe1 HE1
  go_wp2_with fail
  refine (H19b.out).mono ?_
  rintro e w2 ⟨rfl, hbe2⟩
  have HB2 := Lib.hid (HB1.out.below hbe2)
  have HBE2 := Lib.hid (HBE1.out.trans (hbe2.mono HBE1.out.size))
  clear hbe2 HBE1 HB1 H19b
  have hrd := rd_take (k := 0) HB2.out.sl.rd (by omega)
  have HX := Lib.hid (Decode_any (E.take 0) _ w2 hrd (fun W hW => HT.out W (HBE2.out.trans (hW.mono HBE2.out.size))))
  rw [show (E.take 0).length = 0 by rw [List.length_take]; omega] at HX
  clear hrd
  go_wp2_with fail
  refine (HX.out).mono ?_
  rintro e w3 ⟨hd, hbe3⟩
  obtain rfl := hd.badE HD.out
  have HBE3 := Lib.hid (HBE2.out.trans (hbe3.mono HBE2.out.size))
  have HAW := Lib.hid (awake_any w3 (fun W hW => HT.out W (HBE3.out.trans (hW.mono HBE3.out.size))))
  clear hbe3 hd HX HBE2 HB2
  go_wp2_with fail
  refine (HAW.out).mono ?_
  rintro e w4 ⟨rfl, hbe4⟩
  have HBE4 := Lib.hid (HBE3.out.trans (hbe4.mono HBE3.out.size))
  clear hbe4 HAW
  go_wp2_with fail
  go_ret
  exact ⟨rfl, HBE4.out⟩

set_option maxHeartbeats 1600000 in
set_option maxRecDepth 100000 in
theorem cutl_mid (t : List Ce) (n m : Int) (tv : Value) (hk : OkCes t) (w : World) (hr1 : Rd w 3 tv t.length (cvs t)) (hn1 : -9223372036854775808 ≤ n) (hn2 : n ≤ 9223372036854775807) (hm1 : 0 ≤ m) (hm2 : m < 256) (hT : Lib.Utf8Tabs 0 1 w) (h0 : (rightT t).1 = 0) (hc : 0 < countV n (((encV t).length + 1 : Nat) : Int) ∧ countV n (((encV t).length + 1 : Nat) : Int) < (encV t).length) :
    Calls Tryd.prog 6 #[tv, .int .i64 n, .int .u8 m] w fun e w' => e = .returned (.bool true) ∧ Below w.heap.size w w' := by
  have HT : Hid (∀ W, Below w.heap.size w W → Lib.Utf8Tabs 0 1 W) := Lib.hid (fun W h => tabs_below hT (Nat.le_refl _) h)
  have HE1 := Lib.hid (Encode_any t tv hk w hr1 hT)
  have hr := right_zero h0
  have hv := enc_dec hr hk.num
  rw [h0] at HE1
  obtain ⟨k, hkk⟩ : ∃ k : Nat, countV n ((encV t).length + 1 : Nat) = (k : Int) := by
    have := (countV_val (n := n) (m := (((encV t).length + 1 : Nat) : Int)) (by omega)).1
    exact ⟨(countV n (((encV t).length + 1 : Nat) : Int)).toNat, by omega⟩
  have hkl : k ≤ (encV t).length := by
    have := (countV_val (n := n) (m := (((encV t).length + 1 : Nat) : Int)) (by omega)).2
    omega
  have HV := Lib.hid hv
  have HMORE := Lib.hid (dec_more hr hk.num (b8 m))
  obtain ⟨E, hE⟩ : ∃ E, encV t = E := ⟨_, rfl⟩
  rw [hE] at HE1 HV HMORE hkl hkk
  have hlen := HV.out.2
  have H19 : Hid (∀ W : World, Calls Tryd.prog 19 #[.int .i64 n, .int .i64 ((E.length : Int) + 1)] W fun e w' => e = .returned (.int .i64 (k : Int)) ∧ Below W.heap.size W w') := Lib.hid (fun W => by
    have := count_any n (((E.length + 1 : Nat)) : Int) W (by omega) (by omega) hn1 hn2
    rw [hkk] at this
    exact this)
  have hcase : 0 < k ∧ k < E.length := by have := hc; rw [hE, hkk] at this; omega
  have hcase0 : ((k : Int) == 0) = false := by simp; omega
  have hcase1 : decide ((k : Int) < (E.length : Int)) = true := decide_eq_true (by omega)
  have hcase2 : decide (k < E.length) = true := decide_eq_true (by omega)
  have HD : Hid (decD (E.take k) = .bad 62 k) := Lib.hid (dec_cut HV.out.1 hcase.1 hcase.2)
  clear hr1 hT hk h0 hr hv hE hkk hc hn1 hn2
  go_enter Tryd.func6, Tryd.ntmps6
  go_wp2_with fail
  refine (HE1.out).mono ?_
  rintro e w1 ⟨v1, rfl, hb1, hbe1⟩
  have HBE1 := Lib.hid hbe1
  have HB1 := Lib.hid hb1
  have H19b := Lib.hid (H19.out w1)
  obtain ⟨ao1, cap1, rfl, hc1, hm3⟩ := hb1.shape
  unfold maxLen at hm3
  clear hb1 hbe1 HE1
  go_wp2_with fail
  refine (H19b.out).mono ?_
  rintro e w2 ⟨rfl, hbe2⟩
  have HB2 := Lib.hid (HB1.out.below hbe2)
  have HBE2 := Lib.hid (HBE1.out.trans (hbe2.mono HBE1.out.size))
  clear hbe2 HBE1 HB1 H19b
  have hrd := rd_take (k := k) HB2.out.sl.rd (by omega)
  have HX := Lib.hid (Decode_any (E.take k) _ w2 hrd (fun W hW => HT.out W (HBE2.out.trans (hW.mono HBE2.out.size))))
  rw [show (E.take k).length = k by rw [List.length_take]; omega] at HX
  clear hrd
  go_wp2_with fail
  refine (HX.out).mono ?_
  rintro e w3 ⟨hd, hbe3⟩
  obtain rfl := hd.badE HD.out
  have HBE3 := Lib.hid (HBE2.out.trans (hbe3.mono HBE2.out.size))
  have HAW := Lib.hid (awake_any w3 (fun W hW => HT.out W (HBE3.out.trans (hW.mono HBE3.out.size))))
  clear hbe3 hd HX HBE2 HB2
  go_wp2_with fail
  refine (HAW.out).mono ?_
  rintro e w4 ⟨rfl, hbe4⟩
  have HBE4 := Lib.hid (HBE3.out.trans (hbe4.mono HBE3.out.size))
  clear hbe4 HAW
  go_wp2_with fail
  go_ret
  exact ⟨rfl, HBE4.out⟩

set_option maxHeartbeats 1600000 in
set_option maxRecDepth 100000 in
theorem cutl_end (t : List Ce) (n m : Int) (tv : Value) (hk : OkCes t) (w : World) (hr1 : Rd w 3 tv t.length (cvs t)) (hn1 : -9223372036854775808 ≤ n) (hn2 : n ≤ 9223372036854775807) (hm1 : 0 ≤ m) (hm2 : m < 256) (hT : Lib.Utf8Tabs 0 1 w) (h0 : (rightT t).1 = 0) (hc : countV n (((encV t).length + 1 : Nat) : Int) = (encV t).length) :
    Calls Tryd.prog 6 #[tv, .int .i64 n, .int .u8 m] w fun e w' => e = .returned (.bool true) ∧ Below w.heap.size w w' := by
  have HT : Hid (∀ W, Below w.heap.size w W → Lib.Utf8Tabs 0 1 W) := Lib.hid (fun W h => tabs_below hT (Nat.le_refl _) h)
  have HE1 := Lib.hid (Encode_any t tv hk w hr1 hT)
  have hr := right_zero h0
  have hv := enc_dec hr hk.num
  rw [h0] at HE1
  obtain ⟨k, hkk⟩ : ∃ k : Nat, countV n ((encV t).length + 1 : Nat) = (k : Int) := by
    have := (countV_val (n := n) (m := (((encV t).length + 1 : Nat) : Int)) (by omega)).1
    exact ⟨(countV n (((encV t).length + 1 : Nat) : Int)).toNat, by omega⟩
  have hkl : k ≤ (encV t).length := by
    have := (countV_val (n := n) (m := (((encV t).length + 1 : Nat) : Int)) (by omega)).2
    omega
  have HV := Lib.hid hv
  have HMORE := Lib.hid (dec_more hr hk.num (b8 m))
  obtain ⟨E, hE⟩ : ∃ E, encV t = E := ⟨_, rfl⟩
  rw [hE] at HE1 HV HMORE hkl hkk
  have hlen := HV.out.2
  have H19 : Hid (∀ W : World, Calls Tryd.prog 19 #[.int .i64 n, .int .i64 ((E.length : Int) + 1)] W fun e w' => e = .returned (.int .i64 (k : Int)) ∧ Below W.heap.size W w') := Lib.hid (fun W => by
    have := count_any n (((E.length + 1 : Nat)) : Int) W (by omega) (by omega) hn1 hn2
    rw [hkk] at this
    exact this)
  have hcase : k = E.length := by have := hc; rw [hE, hkk] at this; omega
  subst hcase
  clear hr1 hT hk h0 hr hv hE hkk hc hn1 hn2
  go_enter Tryd.func6, Tryd.ntmps6
  go_wp2_with fail
  refine (HE1.out).mono ?_
  rintro e w1 ⟨v1, rfl, hb1, hbe1⟩
  have HBE1 := Lib.hid hbe1
  have HB1 := Lib.hid hb1
  have H19b := Lib.hid (H19.out w1)
  obtain ⟨ao1, cap1, rfl, hc1, hm3⟩ := hb1.shape
  unfold maxLen at hm3
  clear hb1 hbe1 HE1
  go_wp2_with fail
  refine (H19b.out).mono ?_
  rintro e w2 ⟨rfl, hbe2⟩
  have HB2 := Lib.hid (HB1.out.below hbe2)
  have HBE2 := Lib.hid (HBE1.out.trans (hbe2.mono HBE1.out.size))
  clear hbe2 HBE1 HB1 H19b
  have H9 := Lib.hid (lent_any E _ w2 HB2.out.sl.rd (by omega))
  clear HB2
  go_wp2_with fail
  refine (H9.out).mono ?_
  rintro e w3 ⟨v3, rfl, hl3, hbe3⟩
  have HB3 := Lib.hid hl3.bs
  have HBE3 := Lib.hid (HBE2.out.trans (hbe3.mono HBE2.out.size))
  have hz2 := HBE2.out.size
  have hz3 := hbe3.size
  obtain ⟨ao3, cap3, rfl, hc3, hm4⟩ := hl3.bs.shape
  clear hl3 hbe3 H9
  go_wp2_with (at_builtin; refine wpList_bytes (.tmp 74) (.tmp 76) [b8 m] _ 1 rfl rfl rfl rfl HB3.out ?cs rfl (by omega) (by omega) ?next)
  case cs => rw [← bytes1, Int.emod_eq_of_lt hm1 hm2]
  case next =>
    intro v4 w4 h4
    obtain ⟨M, hM⟩ : ∃ M, E ++ [b8 m] = M := ⟨_, rfl⟩
    rw [hM] at h4 HMORE
    clear hM
    have HBE4 := Lib.hid (HBE3.out.trans (h4.bel.mono (by omega)))
    have HX := Lib.hid (Decode_any M _ w4 h4.bs.sl.rd (fun W hW => HT.out W (HBE4.out.trans (hW.mono HBE4.out.size))))
    obtain ⟨ao4, cap4, rfl, hc4, hm5⟩ := h4.bs.shape
    clear h4 HBE3 HB3
    go_wp2_with fail
    refine (HX.out).mono ?_
    rintro e w5 ⟨hd, hbe5⟩
    obtain rfl := hd.badE HMORE.out
    have HBE5 := Lib.hid (HBE4.out.trans (hbe5.mono HBE4.out.size))
    have HAW := Lib.hid (awake_any w5 (fun W hW => HT.out W (HBE5.out.trans (hW.mono HBE5.out.size))))
    clear hbe5 hd HX HBE4
    go_wp2_with fail
    refine (HAW.out).mono ?_
    rintro e w6 ⟨rfl, hbe6⟩
    have HBE6 := Lib.hid (HBE5.out.trans (hbe6.mono HBE5.out.size))
    clear hbe6 HAW
    go_wp2_with fail
    go_ret
    exact ⟨rfl, HBE6.out⟩

theorem etfCut_walk (t : List Ce) (n m : Int) (tv : Value) (hk : OkCes t) (w : World) (hr1 : Rd w 3 tv t.length (cvs t)) (hn1 : -9223372036854775808 ≤ n) (hn2 : n ≤ 9223372036854775807) (hm1 : 0 ≤ m) (hm2 : m < 256) (hT : Lib.Utf8Tabs 0 1 w) :
    Calls Tryd.prog 6 #[tv, .int .i64 n, .int .u8 m] w fun e w' => e = .returned (.bool true) ∧ Below w.heap.size w w' := by
  by_cases h0 : (rightT t).1 = 0
  · have hv := countV_val (n := n) (m := (((encV t).length + 1 : Nat) : Int)) (by omega)
    by_cases h1 : countV n (((encV t).length + 1 : Nat) : Int) = 0
    · exact cutl_zero t n m tv hk w hr1 hn1 hn2 hm1 hm2 hT h0 h1
    · by_cases h2 : countV n (((encV t).length + 1 : Nat) : Int) < (encV t).length
      · exact cutl_mid t n m tv hk w hr1 hn1 hn2 hm1 hm2 hT h0 ⟨by omega, h2⟩
      · exact cutl_end t n m tv hk w hr1 hn1 hn2 hm1 hm2 hT h0 (by omega)
  · exact cutl_bad t n m tv hk w hr1 hn1 hn2 hm1 hm2 hT h0
end Go.Proofs.YtkhjdcnlpablkaaDoor
