/- putInt: a whole number. -/
import Derived.Test.YtkhjdcnlpablkaaDoorByt
import Derived.Lib.EndianBits
namespace Go.Proofs.YtkhjdcnlpablkaaDoor
open Go.RowKit
open Go.Lib (byteCells strCells)

/-- A number's bytes, the lowest first. -/
def leN : Nat → Nat → List UInt8
  | 0, _ => []
  | f + 1, m => if m = 0 then [] else b8 (m : Int) :: leN f (m / 256)
def leL (m : Nat) : List UInt8 := leN 8 m
theorem leN_len : ∀ f m, (leN f m).length ≤ f
  | 0, m => by simp [leN]
  | f + 1, m => by
    simp only [leN]
    split
    · simp
    · have := leN_len f (m / 256)
      simp; omega
def intB (n : Int) : List UInt8 :=
  if 0 ≤ n ∧ n < 256 then [97, b8 n] else if -2147483648 ≤ n ∧ n < 2147483648 then 98 :: be4 n
  else [110, b8 ((leL n.natAbs).length : Int), if n < 0 then 1 else 0] ++ leL n.natAbs

set_option maxHeartbeats 1600000 in
set_option maxRecDepth 100000 in
theorem putInt_any (B : Nat) (v : Value) (xs : List UInt8) (n : Int) (hn : -9223372036854775808 ≤ n ∧ n ≤ 9223372036854775807) (w : World) (hB : B ≤ w.heap.size) (h : Bs B w v xs) (hl : xs.length ≤ 800000000000) : Calls Tryd.prog 67 #[v, .int .i64 n] w (BPost B w v (xs ++ intB n)) := by
  have H := Lib.hid h
  clear h
  obtain ⟨hn1, hn2⟩ := hn
  by_cases hs : 0 ≤ n ∧ n < 256
  · have HF : Hid (intB n = [97, b8 n]) := Lib.hid (by unfold intB; rw [if_pos hs])
    obtain ⟨hs1, hs2⟩ := hs
    have q1 : decide (0 ≤ n) = true := decide_eq_true hs1
    have q2 : decide (n < 256) = true := decide_eq_true hs2
    go_enter Tryd.func67, Tryd.ntmps67
    go_wp2_with (at_builtin; refine wpList_bytes (.tmp 15) (.tmp 18) [97, b8 n] _ 2 rfl rfl rfl rfl H.out (by simp [byteCells, b8_val]; try omega) rfl hB (by omega) ?next)
    case next =>
      intro v' w' h1
      have H1 := Lib.hid h1
      clear h1
      go_wp2_with fail
      go_ret
      exact ⟨_, rfl, by rw [HF.out]; exact H1.out⟩
  · by_cases hm : -2147483648 ≤ n ∧ n < 2147483648
    · have HF : Hid (intB n = 98 :: be4 n) := Lib.hid (by unfold intB; rw [if_neg hs, if_pos hm])
      obtain ⟨hm1, hm2⟩ := hm
      have hs' : n < 0 ∨ 256 ≤ n := by omega
      have q3 : decide (-2147483648 ≤ n) = true := decide_eq_true hm1
      have q4 : decide (n < 2147483648) = true := decide_eq_true hm2
      clear hs
      rcases hs' with hs | hs
      · have q1 : decide (0 ≤ n) = false := decide_eq_false (by omega)
        go_enter Tryd.func67, Tryd.ntmps67
        go_wp2_with (at_builtin; refine wpList_bytes (.tmp 27) (.tmp 28) [98] _ 1 rfl rfl rfl rfl H.out rfl rfl hB (by omega) ?next)
        case next =>
          intro v' w' h1
          have H1 := Lib.hid h1
          have hz := h1.bel.size
          clear h1
          go_wp2_with fail
          refine (put32_any B v' (xs ++ [98]) n w' (by omega) H1.out.bs (by simp; omega)).mono ?_
          rintro e w2 ⟨v2, rfl, h3⟩
          have H3 := Lib.hid h3
          clear h3
          go_wp2_with fail
          go_ret
          exact ⟨_, rfl, by rw [HF.out]; have := H1.out.trans H3.out; simpa using this⟩
      · have q1 : decide (0 ≤ n) = true := decide_eq_true (by omega)
        have q2 : decide (n < 256) = false := decide_eq_false (by omega)
        go_enter Tryd.func67, Tryd.ntmps67
        go_wp2_with (at_builtin; refine wpList_bytes (.tmp 27) (.tmp 28) [98] _ 1 rfl rfl rfl rfl H.out rfl rfl hB (by omega) ?next)
        case next =>
          intro v' w' h1
          have H1 := Lib.hid h1
          have hz := h1.bel.size
          clear h1
          go_wp2_with fail
          refine (put32_any B v' (xs ++ [98]) n w' (by omega) H1.out.bs (by simp; omega)).mono ?_
          rintro e w2 ⟨v2, rfl, h3⟩
          have H3 := Lib.hid h3
          clear h3
          go_wp2_with fail
          go_ret
          exact ⟨_, rfl, by rw [HF.out]; have := H1.out.trans H3.out; simpa using this⟩
    · have HF : Hid (intB n = [110, b8 ((leL n.natAbs).length : Int), if n < 0 then 1 else 0] ++ leL n.natAbs) := Lib.hid (by unfold intB; rw [if_neg hs, if_neg hm])
      rcases (show n < -2147483648 ∨ 2147483648 ≤ n by omega) with hs' | hs'
      · have q1 : decide (0 ≤ n) = false := decide_eq_false (by omega)
        have q3 : decide (-2147483648 ≤ n) = false := decide_eq_false (by omega)
        have q5 : decide (n < 0) = true := decide_eq_true (by omega)
        obtain ⟨m, hm0⟩ : ∃ m, n.natAbs = m := ⟨_, rfl⟩
        have hw : IntKind.u64.wrap (-IntKind.u64.wrap n) = (m : Int) := by rw [IntKind.wrap_u64, IntKind.wrap_u64]; omega
        have hm1 : m ≤ 9223372036854775808 := by omega
        rw [if_pos (by omega), hm0] at HF
        clear hm0 hs hm
        go_enter Tryd.func67, Tryd.ntmps67
        go_wp2_with fail
        go_loopg [5, 7] 8 (fun g s5 s7 wr => ∃ (mm : Nat) (ys : List UInt8), s5 = .int .u64 mm ∧ ys.length + g = 8 ∧ mm < 256 ^ g ∧ Bs w.heap.size wr s7 ys ∧ Below w.heap.size w wr ∧ Hid (leL m = ys ++ leN g mm))
        case atStart => exact ⟨m, [], rfl, rfl, by omega, Bs.nil _ _, Below.refl _ _, Lib.hid rfl⟩
        case round =>
          obtain ⟨mm, ys, rfl, hg, hlt, hd, hbe, hI⟩ := hrel
          have hz := hbe.size
          by_cases hmm : mm = 0
          · subst hmm
            have HL : Hid (leL m = ys) := Lib.hid (by rw [hI.out]; cases gk <;> simp [leN])
            obtain ⟨ao, cap, rfl, hc1, hc2⟩ := hd.shape
            have H1 := Lib.hid (H.out.below hbe)
            have HD := Lib.hid hd
            have HBE := Lib.hid hbe
            have hy : ys.length ≤ 8 := by omega
            clear hI hd hbe hlt hg
            go_wp2_with (at_builtin; refine wpList_bytes (.tmp 47) (.tmp 52) [110, b8 (ys.length : Int), 1] _ 3 rfl rfl rfl rfl H1.out (by simp [byteCells, b8_val]; try omega) rfl (by omega) (by omega) ?next)
            case next =>
              intro v2 w2 h1
              have H1' := Lib.hid h1
              have hz2 := h1.bel.size
              have hrd := (h1.fr.sl HD.out.sl (fun k hk hv => by have h3 := HD.out.own k hk; have h4 := H.out.sl.lt k hv; omega)).rd
              have HRD := Lib.hid hrd
              clear h1 hrd
              go_wp2_with (at_builtin; refine wpList_bytes_rd (.tmp 54) (.tmp 55) ys rfl rfl rfl rfl H1'.out.bs HRD.out (by omega) (by simp; omega) ?next2)
              case next2 =>
                intro v3 w3 h3
                have H3 := Lib.hid h3
                clear h3
                go_wp2_with fail
                go_ret
                exact ⟨_, rfl, by rw [HF.out, HL.out]; have := Wr.behind HBE.out hB (H1'.out.trans H3.out); simpa using this⟩
          · obtain ⟨g, rfl⟩ : ∃ g, gk = g + 1 := by
              cases gk with
              | zero => simp at hlt; omega
              | succ g => exact ⟨g, rfl⟩
            have HI2 : Hid (leL m = (ys ++ [b8 (mm : Int)]) ++ leN g (mm / 256)) := Lib.hid (by rw [hI.out]; simp only [leN]; rw [if_neg hmm]; simp)
            have hlt2 : mm / 256 < 256 ^ g := by rw [Nat.pow_succ] at hlt; omega
            have HLT := Lib.hid hlt2
            have q6 : decide ((0 : Int) < (mm : Int)) = true := decide_eq_true (by omega)
            have q7 : decide (0 < mm) = true := decide_eq_true (by omega)
            have HD := Lib.hid hd
            have HBE := Lib.hid hbe
            clear hI hlt hlt2 hd hbe hmm
            go_wp2_with (at_builtin; refine wpList_bytes (.tmp 42) (.tmp 45) [b8 (mm : Int)] _ 1 rfl rfl rfl rfl HD.out (bytes1 _) rfl (by omega) (by omega) ?next)
            case next =>
              intro v2 w2 h1
              have HB2 := Lib.hid (HBE.out.trans h1.bel)
              have H1 := Lib.hid h1.bs
              clear h1
              go_wp2_with fail
              go_roundg g
              case measure => omega
              case rel => exact ⟨mm / 256, ys ++ [b8 (mm : Int)], by first | rfl | simp, by simp; omega, HLT.out, H1.out, HB2.out, HI2⟩
      · have q1 : decide (0 ≤ n) = true := decide_eq_true (by omega)
        have q2 : decide (n < 256) = false := decide_eq_false (by omega)
        have q3 : decide (-2147483648 ≤ n) = true := decide_eq_true (by omega)
        have q4 : decide (n < 2147483648) = false := decide_eq_false (by omega)
        have q5 : decide (n < 0) = false := decide_eq_false (by omega)
        obtain ⟨m, rfl⟩ : ∃ m : Nat, n = (m : Int) := ⟨n.toNat, by omega⟩
        have hm1 : m ≤ 9223372036854775808 := by omega
        rw [if_neg (by omega), show (m : Int).natAbs = m by simp] at HF
        clear hs hm
        go_enter Tryd.func67, Tryd.ntmps67
        go_wp2_with fail
        go_loopg [5, 7] 8 (fun g s5 s7 wr => ∃ (mm : Nat) (ys : List UInt8), s5 = .int .u64 mm ∧ ys.length + g = 8 ∧ mm < 256 ^ g ∧ Bs w.heap.size wr s7 ys ∧ Below w.heap.size w wr ∧ Hid (leL m = ys ++ leN g mm))
        case atStart => exact ⟨m, [], rfl, rfl, by omega, Bs.nil _ _, Below.refl _ _, Lib.hid rfl⟩
        case round =>
          obtain ⟨mm, ys, rfl, hg, hlt, hd, hbe, hI⟩ := hrel
          have hz := hbe.size
          by_cases hmm : mm = 0
          · subst hmm
            have HL : Hid (leL m = ys) := Lib.hid (by rw [hI.out]; cases gk <;> simp [leN])
            obtain ⟨ao, cap, rfl, hc1, hc2⟩ := hd.shape
            have H1 := Lib.hid (H.out.below hbe)
            have HD := Lib.hid hd
            have HBE := Lib.hid hbe
            have hy : ys.length ≤ 8 := by omega
            clear hI hd hbe hlt hg
            go_wp2_with (at_builtin; refine wpList_bytes (.tmp 47) (.tmp 52) [110, b8 (ys.length : Int), 0] _ 3 rfl rfl rfl rfl H1.out (by simp [byteCells, b8_val]; try omega) rfl (by omega) (by omega) ?next)
            case next =>
              intro v2 w2 h1
              have H1' := Lib.hid h1
              have hz2 := h1.bel.size
              have hrd := (h1.fr.sl HD.out.sl (fun k hk hv => by have h3 := HD.out.own k hk; have h4 := H.out.sl.lt k hv; omega)).rd
              have HRD := Lib.hid hrd
              clear h1 hrd
              go_wp2_with (at_builtin; refine wpList_bytes_rd (.tmp 54) (.tmp 55) ys rfl rfl rfl rfl H1'.out.bs HRD.out (by omega) (by simp; omega) ?next2)
              case next2 =>
                intro v3 w3 h3
                have H3 := Lib.hid h3
                clear h3
                go_wp2_with fail
                go_ret
                exact ⟨_, rfl, by rw [HF.out, HL.out]; have := Wr.behind HBE.out hB (H1'.out.trans H3.out); simpa using this⟩
          · obtain ⟨g, rfl⟩ : ∃ g, gk = g + 1 := by
              cases gk with
              | zero => simp at hlt; omega
              | succ g => exact ⟨g, rfl⟩
            have HI2 : Hid (leL m = (ys ++ [b8 (mm : Int)]) ++ leN g (mm / 256)) := Lib.hid (by rw [hI.out]; simp only [leN]; rw [if_neg hmm]; simp)
            have hlt2 : mm / 256 < 256 ^ g := by rw [Nat.pow_succ] at hlt; omega
            have HLT := Lib.hid hlt2
            have q6 : decide ((0 : Int) < (mm : Int)) = true := decide_eq_true (by omega)
            have q7 : decide (0 < mm) = true := decide_eq_true (by omega)
            have HD := Lib.hid hd
            have HBE := Lib.hid hbe
            clear hI hlt hlt2 hd hbe hmm
            go_wp2_with (at_builtin; refine wpList_bytes (.tmp 42) (.tmp 45) [b8 (mm : Int)] _ 1 rfl rfl rfl rfl HD.out (bytes1 _) rfl (by omega) (by omega) ?next)
            case next =>
              intro v2 w2 h1
              have HB2 := Lib.hid (HBE.out.trans h1.bel)
              have H1 := Lib.hid h1.bs
              clear h1
              go_wp2_with fail
              go_roundg g
              case measure => omega
              case rel => exact ⟨mm / 256, ys ++ [b8 (mm : Int)], by first | rfl | simp, by simp; omega, HLT.out, H1.out, HB2.out, HI2⟩
end Go.Proofs.YtkhjdcnlpablkaaDoor
