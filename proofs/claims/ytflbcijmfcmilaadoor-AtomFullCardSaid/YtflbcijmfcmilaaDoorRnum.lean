/- The document's digits and numbers. -/
import Derived.Test.YtflbcijmfcmilaaDoorScan2
namespace Go.Proofs.YtflbcijmfcmilaaDoor
open Go.RowKit

def digV (c : UInt8) (base : Nat) : Int := match dig c base with
  | some d => (d : Int)
  | none => -1

/-- A digit's number; none below 99. -/
def digN (n : Nat) : Nat := if 48 ≤ n ∧ n ≤ 57 then n - 48 else if 97 ≤ n ∧ n ≤ 102 then n - 87 else if 65 ≤ n ∧ n ≤ 70 then n - 55 else 99

theorem dig_eq (c : UInt8) (base : Nat) : dig c base = if digN c.toNat < base then some (digN c.toNat) else none := rfl

theorem digV_eq (c : UInt8) (base : Nat) : digV c base = if digN c.toNat < base then (digN c.toNat : Int) else -1 := by
  unfold digV
  rw [dig_eq]
  by_cases h : digN c.toNat < base
  · rw [if_pos h, if_pos h]
  · rw [if_neg h, if_neg h]

set_option maxHeartbeats 3200000 in
set_option maxRecDepth 100000 in
theorem digit_any (c : UInt8) (base : Nat) (hb : base ≤ 16) (w : World) : Calls Tryd.prog 88 #[.int .u8 c.toNat, .int .i64 base] w fun e w' => e = .returned (.int .i64 (digV c base)) ∧ w' = w := by
  rw [digV_eq]
  obtain ⟨n, hn⟩ : ∃ n, c.toNat = n := ⟨_, rfl⟩
  have hn256 : n < 256 := by rw [← hn]; exact c.toNat_lt
  rw [hn]
  clear hn
  obtain ⟨d, hd⟩ : ∃ d, digN n = d := ⟨_, rfl⟩
  have HF : Hid ((if d < base then (d : Int) else -1) = if d < base then (d : Int) else -1) := Lib.hid rfl
  rw [hd]
  unfold digN at hd
  by_cases h1 : 48 ≤ n ∧ n ≤ 57
  · rw [if_pos h1] at hd
    obtain ⟨h1, h2⟩ := h1
    have hw : IntKind.u8.wrap ((n : Int) - 48) = (d : Int) := by rw [show (n : Int) - 48 = (d : Int) by omega]; exact IntWalk.u8_in _ (by omega)
    have hw2 : IntKind.i64.wrap (d : Int) = (d : Int) := IntWalk.i64_in _ (by omega)
    by_cases hdb : d < base
    · have hdb' : decide (base ≤ d) = false := by simp; omega
      rw [if_pos hdb]
      clear hd HF
      go_enter Tryd.func88, Tryd.ntmps88
      go_wp2_with fail
      go_ret
      exact ⟨rfl, rfl⟩
    · have hdb' : decide (base ≤ d) = true := by simp; omega
      rw [if_neg hdb]
      clear hd HF
      go_enter Tryd.func88, Tryd.ntmps88
      go_wp2_with fail
      go_ret
      exact ⟨rfl, rfl⟩
  · rw [if_neg h1] at hd
    by_cases h2 : 97 ≤ n ∧ n ≤ 102
    · rw [if_pos h2] at hd
      obtain ⟨h2, h3⟩ := h2
      obtain ⟨d0, hd0⟩ : ∃ d0, n - 97 = d0 := ⟨_, rfl⟩
      have hw : IntKind.u8.wrap ((n : Int) - 97) = (d0 : Int) := by rw [show (n : Int) - 97 = (d0 : Int) by omega]; exact IntWalk.u8_in _ (by omega)
      have hw2 : IntKind.i64.wrap (d0 : Int) = (d0 : Int) := IntWalk.i64_in _ (by omega)
      have hw3 : (d0 : Int) + 10 = (d : Int) := by omega
      have h57 : 57 < n := by omega
      have hd16 : d < 16 := by omega
      by_cases hdb : d < base
      · have hdb' : decide (base ≤ d) = false := by simp; omega
        rw [if_pos hdb]
        have hd10 : d0 ≤ 5 := by omega
        clear hd HF h1 hd0
        go_enter Tryd.func88, Tryd.ntmps88
        go_wp2_with fail
        go_ret
        exact ⟨rfl, rfl⟩
      · have hdb' : decide (base ≤ d) = true := by simp; omega
        rw [if_neg hdb]
        have hd10 : d0 ≤ 5 := by omega
        clear hd HF h1 hd0
        go_enter Tryd.func88, Tryd.ntmps88
        go_wp2_with fail
        go_ret
        exact ⟨rfl, rfl⟩
    · rw [if_neg h2] at hd
      by_cases h3 : 65 ≤ n ∧ n ≤ 70
      · rw [if_pos h3] at hd
        obtain ⟨h3, h4⟩ := h3
        obtain ⟨d0, hd0⟩ : ∃ d0, n - 65 = d0 := ⟨_, rfl⟩
        have hw : IntKind.u8.wrap ((n : Int) - 65) = (d0 : Int) := by rw [show (n : Int) - 65 = (d0 : Int) by omega]; exact IntWalk.u8_in _ (by omega)
        have hw2 : IntKind.i64.wrap (d0 : Int) = (d0 : Int) := IntWalk.i64_in _ (by omega)
        have hw3 : (d0 : Int) + 10 = (d : Int) := by omega
        have h57 : 57 < n := by omega
        have h97 : n < 97 := by omega
        have hd16 : d < 16 := by omega
        have hd10 : d0 ≤ 5 := by omega
        by_cases hdb : d < base
        · have hdb' : decide (base ≤ d) = false := by simp; omega
          rw [if_pos hdb]
          clear hd HF h1 h2 hd0
          go_enter Tryd.func88, Tryd.ntmps88
          go_wp2_with fail
          go_ret
          exact ⟨rfl, rfl⟩
        · have hdb' : decide (base ≤ d) = true := by simp; omega
          rw [if_neg hdb]
          clear hd HF h1 h2 hd0
          go_enter Tryd.func88, Tryd.ntmps88
          go_wp2_with fail
          go_ret
          exact ⟨rfl, rfl⟩
      · rw [if_neg h3] at hd
        have hg : n < 48 ∨ (57 < n ∧ n < 65) ∨ (70 < n ∧ n < 97) ∨ 102 < n := by omega
        rw [if_neg (by omega)]
        clear HF hd h1 h2 h3
        rcases hg with h | ⟨h, h'⟩ | ⟨h, h'⟩ | h
        all_goals
          go_enter Tryd.func88, Tryd.ntmps88
          go_wp2_with fail
          go_ret
          exact ⟨rfl, rfl⟩

/-- A number as the document holds it. -/
def capR (v : Nat) : Nat := min v 1114112
theorem capR_le (v : Nat) : capR v ≤ 1114112 := by unfold capR; omega
theorem capR_zero : capR 0 = 0 := Nat.min_eq_left (by omega)

set_option maxHeartbeats 3200000 in
set_option maxRecDepth 100000 in
theorem number_any (s : ByteArray) (pos base most r j : Nat) (hbase : base = 8 ∨ base = 16) (hm : most ≤ maxLen) (hs : s.size ≤ maxLen) (hp : pos ≤ s.size) (w : World)
    (hrj : readNum base most (s.data.toList.drop pos) 0 = (r, j)) :
    Calls Tryd.prog 76 #[.string s, .int .i64 pos, .int .i64 base, .int .i64 most] w fun e w' => e = .returned (.tuple #[.int .i64 (capR r), .int .i64 ((pos + j : Nat) : Int)]) ∧ w' = w := by
  have hm' := hm
  unfold maxLen at hm' hs
  have HRJ := Lib.hid hrj
  have hb16 : base ≤ 16 := by omega
  have hb8 : 8 ≤ base := by omega
  have HBASE := Lib.hid hbase
  clear hrj hbase
  go_enter Tryd.func76, Tryd.ntmps76
  go_wp2_with fail
  go_loopg [1, 10, 11, 12] most (fun g s1 s10 s11 s12 wr => ∃ k v : Nat, k + g = most ∧ pos + k ≤ s.size ∧ s1 = .int .i64 ((pos : Int) + (k : Int)) ∧ s10 = .int .i64 (capR v) ∧ s11 = .int .i64 k ∧ wr = w ∧ Hid ((r, j) = ((readNum base g (s.data.toList.drop (pos + k)) v).1, k + (readNum base g (s.data.toList.drop (pos + k)) v).2)))
  case atStart => exact ⟨0, 0, by omega, by omega, by simp, by rw [capR_zero]; rfl, rfl, rfl, Lib.hid (by simp only [Nat.add_zero, Nat.zero_add]; exact HRJ.out.symm)⟩
  case round =>
    obtain ⟨k, v, hk, hpk, rfl, rfl, rfl, rfl, hI⟩ := hrel
    have hcv := capR_le v
    have hfin : (r, j) = (v, k) → Ending.returned (.tuple #[.int .i64 (capR r), .int .i64 ((pos + j : Nat) : Int)]) = .returned (.tuple #[.int .i64 (capR v), .int .i64 ((pos : Int) + (k : Int))]) := by
      intro h
      obtain ⟨rfl, rfl⟩ := Prod.mk.inj h
      rfl
    have HFIN := Lib.hid hfin
    clear hfin
    by_cases hg : gk = 0
    · subst hg
      have hI0 := hI.out
      rw [readNum_zero] at hI0
      have HF := Lib.hid (HFIN.out hI0)
      have hkm : decide (k < most) = false := by simp; omega
      clear hI hI0
      go_wp2_with fail
      go_ret2
      exact ⟨by rw [HF.out]; rfl, rfl⟩
    · have hkm : decide (k < most) = true := by simp; omega
      by_cases hlt : pos + k < s.size
      · have hd := drop_at hlt
        obtain ⟨g, rfl⟩ : ∃ g, gk = g + 1 := ⟨gk - 1, by omega⟩
        obtain ⟨c, hc⟩ : ∃ c, s[pos + k]'hlt = c := ⟨_, rfl⟩
        rw [hc] at hd
        have hcz : (s[pos + k]'hlt).toNat = c.toNat := by rw [hc]
        have hpp : (0 : Int) ≤ (pos : Int) + (k : Int) := by omega
        have hpp2 : (pos : Int) + (k : Int) < (s.size : Int) := by omega
        have hpp3 : ((pos : Int) + (k : Int)).toNat = pos + k := by omega
        have hstep := hI.out
        rw [hd, readNum_step] at hstep
        have HDG := Lib.hid (digit_any c base hb16 wr)
        cases hdg : dig c base with
        | none =>
          rw [hdg] at hstep
          have HF := Lib.hid (HFIN.out hstep)
          have HV : Hid (digV c base = -1) := Lib.hid (by unfold digV; rw [hdg])
          clear hstep hdg hI hd
          go_wp2_with fail
          refine (HDG.out).mono ?_
          rintro e w1 ⟨rfl, rfl⟩
          rw [HV.out]
          go_wp2_with fail
          go_ret2
          exact ⟨by rw [HF.out]; rfl, rfl⟩
        | some d =>
          rw [hdg] at hstep
          have hdb : d < base := by
            rw [dig_eq] at hdg
            by_cases h : digN c.toNat < base
            · rw [if_pos h] at hdg
              rw [← Option.some.inj hdg]
              exact h
            · rw [if_neg h] at hdg
              cases hdg
          have HV : Hid (digV c base = (d : Int)) := Lib.hid (by unfold digV; rw [hdg])
          have HN : Hid ((r, j) = ((readNum base g (s.data.toList.drop (pos + (k + 1))) (v * base + d)).1, (k + 1) + (readNum base g (s.data.toList.drop (pos + (k + 1))) (v * base + d)).2)) := Lib.hid (by
            rw [hstep]
            show ((readNum base g (s.data.toList.drop (pos + (k + 1))) (v * base + d)).1, k + ((readNum base g (s.data.toList.drop (pos + (k + 1))) (v * base + d)).2 + 1)) = _
            congr 1
            omega)
          obtain ⟨p, hpv⟩ : ∃ p : Nat, capR v * base = p := ⟨_, rfl⟩
          have hpl : p ≤ 17825792 := by
            rw [← hpv]
            exact Nat.le_trans (Nat.mul_le_mul hcv hb16) (by omega)
          have hd16 : d < 16 := by omega
          have HC : Hid (capR (v * base + d) = min (p + d) 1114112) := Lib.hid (by
            unfold capR at hpv ⊢
            rcases HBASE.out with rfl | rfl <;> omega)
          have hw2 : IntKind.i64.wrap ((p : Int) + (d : Int)) = (p : Int) + (d : Int) := IntWalk.i64_in _ (by omega)
          have hw1 : IntKind.i64.wrap ((capR v : Int) * (base : Int)) = (p : Int) := by
            rw [← hpv, Int.natCast_mul]
            refine IntWalk.i64_in _ ?_
            rw [← Int.natCast_mul, hpv]
            clear hpv
            omega
          clear hstep hdg hpv hI hd
          by_cases hbig : 1114112 < p + d
          · have hbz : (1114112 : Int) < (p : Int) + (d : Int) := by omega
            have HC2 : Hid (capR (v * base + d) = 1114112) := Lib.hid (by rw [HC.out]; omega)
            clear hbig
            go_wp2_with fail
            refine (HDG.out).mono ?_
            rintro e w1 ⟨rfl, rfl⟩
            rw [HV.out]
            go_wp2_with fail
            go_roundg g
            case measure => omega
            case rel => exact ⟨k + 1, v * base + d, by omega, by omega, by go_num, by rw [HC2.out]; rfl, by go_num, rfl, HN⟩
          · have hbz : ¬ (1114112 : Int) < (p : Int) + (d : Int) := by omega
            have HC2 : Hid (((capR (v * base + d) : Nat) : Int) = (p : Int) + (d : Int)) := Lib.hid (by rw [HC.out]; omega)
            clear hbig
            go_wp2_with fail
            refine (HDG.out).mono ?_
            rintro e w1 ⟨rfl, rfl⟩
            rw [HV.out]
            go_wp2_with fail
            go_roundg g
            case measure => omega
            case rel => exact ⟨k + 1, v * base + d, by omega, by omega, by go_num, by rw [HC2.out], by go_num, rfl, HN⟩
      · have HF := Lib.hid (HFIN.out (by
          rw [hI.out, drop_end (s := s) (m := pos + k) (by omega), readNum_nil]
          rfl))
        clear hI
        go_wp2_with fail
        go_ret2
        exact ⟨by rw [HF.out]; rfl, rfl⟩
end Go.Proofs.YtflbcijmfcmilaaDoor
