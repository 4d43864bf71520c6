/- AtomOrders: any three texts. -/
import Derived.Test.YtflbcijmfcmilaaDoorAwake
import Derived.Lib.Bytealg
import Derived.Lib.SlicesS
namespace Go.Proofs.YtflbcijmfcmilaaDoor
open Go.RowKit

theorem cmpB_nil_r (b : List UInt8) : Lib.compareBytes [] b = if b = [] then 0 else -1 := by cases b <;> simp [Lib.compareBytes]
theorem cmpB_nil_l (a : List UInt8) : Lib.compareBytes a [] = if a = [] then 0 else 1 := by cases a <;> simp [Lib.compareBytes]

theorem u8_lt (a b : UInt8) : a < b ↔ ((a.toNat : Int) < (b.toNat : Int)) := by
  rw [UInt8.lt_iff_toNat_lt]; omega

theorem below_drewN' (w : World) (q : Nat) : Below w.heap.size w (w.drewN q) := ⟨rfl, rfl, rfl, Nat.le_refl _, fun _ _ => rfl⟩

set_option maxHeartbeats 1600000 in
set_option maxRecDepth 100000 in
theorem rcompare_any (a b : ByteArray) (w : World) (ha : a.size ≤ maxLen) (_ : b.size ≤ maxLen) : Calls Tryd.prog 23 #[.string a, .string b] w fun e w' => e = .returned (.int .i64 (Lib.compareBytes a.data.toList b.data.toList)) ∧ Below w.heap.size w w' := by
  unfold maxLen at ha
  go_enter Tryd.func23, Tryd.ntmps23
  go_wp2_with fail
  go_loopg [5] a.size (fun g s5 wr => ∃ i : Nat, i + g = a.size ∧ i ≤ b.size ∧ s5 = .int .i64 i ∧ Below w.heap.size w wr ∧ Hid (Lib.compareBytes a.data.toList b.data.toList = Lib.compareBytes (a.data.toList.drop i) (b.data.toList.drop i)))
  case atStart => exact ⟨0, by omega, by omega, rfl, Below.refl _ _, Lib.hid (by simp)⟩
  case round =>
    obtain ⟨i, hi, hib, rfl, hB, hI⟩ := hrel
    by_cases h1 : i < a.size
    · by_cases h2 : i < b.size
      · cases gk with
        | zero => omega
        | succ g =>
        have hd1 := drop_at h1
        have hd2 := drop_at h2
        have HD1 := Lib.hid hd1
        have HD2 := Lib.hid hd2
        clear hd1 hd2
        by_cases hlt : ((a[i]'h1).toNat : Int) < ((b[i]'h2).toNat : Int)
        · have HI : Hid (Lib.compareBytes a.data.toList b.data.toList = -1) := by
            have := hI.out
            rw [HD1.out, HD2.out, Lib.compareBytes, if_pos ((u8_lt _ _).2 hlt)] at this
            exact Lib.hid this
          clear hI HD1 HD2
          go_wp2_with fail
          go_quiet (fail)
          go_wp2_with fail
          go_ret
          exact ⟨by rw [HI.out]; rfl, hB.trans ((below_drewN' _ _).mono hB.size)⟩
        · by_cases hgt : ((b[i]'h2).toNat : Int) < ((a[i]'h1).toNat : Int)
          · have HI : Hid (Lib.compareBytes a.data.toList b.data.toList = 1) := by
              have := hI.out
              rw [HD1.out, HD2.out, Lib.compareBytes, if_neg (fun h => hlt ((u8_lt _ _).1 h)), if_pos ((u8_lt _ _).2 hgt)] at this
              exact Lib.hid this
            clear hI HD1 HD2
            go_wp2_with fail
            go_quiet (fail)
            go_wp2_with fail
            go_quiet (fail)
            go_wp2_with fail
            go_ret
            exact ⟨by rw [HI.out]; rfl, hB.trans ((Below.trans (below_drewN' _ _) (below_drewN' (wr.drewN _) _)).mono hB.size)⟩
          · have HI : Hid (Lib.compareBytes a.data.toList b.data.toList = Lib.compareBytes (a.data.toList.drop (i + 1)) (b.data.toList.drop (i + 1))) := by
              have := hI.out
              rw [HD1.out, HD2.out, Lib.compareBytes, if_neg (fun h => hlt ((u8_lt _ _).1 h)), if_neg (fun h => hgt ((u8_lt _ _).1 h))] at this
              exact Lib.hid this
            clear hI HD1 HD2
            go_wp2_with fail
            go_quiet (fail)
            go_wp2_with fail
            go_quiet (fail)
            go_wp2_with fail
            go_roundg g
            case measure => omega
            case rel => exact ⟨i + 1, by omega, by omega, by go_num, hB.trans ((below_drewN' _ _).mono hB.size), HI⟩
      · obtain rfl : i = b.size := by omega
        have HI : Hid (Lib.compareBytes a.data.toList b.data.toList = 1) := by
          have := hI.out
          rw [drop_end (s := b) (Nat.le_refl _), drop_at h1] at this
          exact Lib.hid this
        clear hI
        go_wp2_with fail
        go_ret
        exact ⟨by rw [HI.out]; rfl, hB⟩
    · obtain rfl : i = a.size := by omega
      by_cases h2 : a.size < b.size
      · have HI : Hid (Lib.compareBytes a.data.toList b.data.toList = -1) := by
          have := hI.out
          rw [drop_end (s := a) (Nat.le_refl _), drop_at h2] at this
          exact Lib.hid this
        clear hI
        go_wp2_with fail
        go_ret
        exact ⟨by rw [HI.out]; rfl, hB⟩
      · have HI : Hid (Lib.compareBytes a.data.toList b.data.toList = 0) := by
          have := hI.out
          rw [drop_end (s := a) (Nat.le_refl _), drop_end (s := b) (by omega)] at this
          exact Lib.hid this
        clear hI
        go_wp2_with fail
        go_ret
        exact ⟨by rw [HI.out]; rfl, hB⟩

/-! ### The plain law -/
theorem cmpB_rng : ∀ a b : List UInt8, Lib.compareBytes a b = -1 ∨ Lib.compareBytes a b = 0 ∨ Lib.compareBytes a b = 1
  | [], [] => by simp [Lib.compareBytes]
  | [], _ :: _ => by simp [Lib.compareBytes]
  | _ :: _, [] => by simp [Lib.compareBytes]
  | a :: ar, b :: br => by
    unfold Lib.compareBytes
    split
    · simp
    · split
      · simp
      · exact cmpB_rng ar br

theorem cmpB_swap : ∀ a b : List UInt8, Lib.compareBytes b a = - Lib.compareBytes a b
  | [], [] => by simp [Lib.compareBytes]
  | [], _ :: _ => by simp [Lib.compareBytes]
  | _ :: _, [] => by simp [Lib.compareBytes]
  | a :: ar, b :: br => by
    have ih := cmpB_swap ar br
    simp only [Lib.compareBytes, UInt8.lt_iff_toNat_lt]
    split <;> split <;> (try split) <;> (try omega)

theorem cmpB_eq : ∀ a b : List UInt8, Lib.compareBytes a b = 0 ↔ a = b
  | [], [] => by simp [Lib.compareBytes]
  | [], _ :: _ => by simp [Lib.compareBytes]
  | _ :: _, [] => by simp [Lib.compareBytes]
  | a :: ar, b :: br => by
    have ih := cmpB_eq ar br
    simp only [Lib.compareBytes, UInt8.lt_iff_toNat_lt, List.cons.injEq]
    by_cases h1 : a.toNat < b.toNat
    · rw [if_pos h1]
      constructor
      · intro h; omega
      · rintro ⟨rfl, _⟩; omega
    · rw [if_neg h1]
      by_cases h2 : b.toNat < a.toNat
      · rw [if_pos h2]
        constructor
        · intro h; omega
        · rintro ⟨rfl, _⟩; omega
      · rw [if_neg h2, ih]
        have : a = b := UInt8.toNat.inj (by omega)
        simp [this]

theorem cmpB_trans : ∀ a b c : List UInt8, Lib.compareBytes a b ≤ 0 → Lib.compareBytes b c ≤ 0 → Lib.compareBytes a c ≤ 0 ∧ (Lib.compareBytes a b < 0 → Lib.compareBytes a c < 0)
  | [], _, [] => by intro h1 h2; cases ‹List UInt8› <;> simp [Lib.compareBytes] at *
  | [], _, _ :: _ => by intro h1 h2; simp [Lib.compareBytes]
  | _ :: _, [], _ => by intro h1 h2; simp [Lib.compareBytes] at h1
  | _ :: _, _ :: _, [] => by intro h1 h2; simp [Lib.compareBytes] at h2
  | a :: ar, b :: br, c :: cr => by
    have ih := cmpB_trans ar br cr
    simp only [Lib.compareBytes, UInt8.lt_iff_toNat_lt]
    by_cases h1 : a.toNat < b.toNat <;> by_cases h2 : b.toNat < a.toNat <;> by_cases h3 : b.toNat < c.toNat <;> by_cases h4 : c.toNat < b.toNat <;> by_cases h5 : a.toNat < c.toNat <;> by_cases h6 : c.toNat < a.toNat <;> (try omega) <;> simp only [h1, h2, h3, h4, h5, h6, if_true, if_false] <;> intro p q <;> (try omega)

set_option maxHeartbeats 3200000 in
set_option maxRecDepth 100000 in
theorem atomOrders_walk (a b c : ByteArray) (ha : a.size ≤ maxLen) (hb : b.size ≤ maxLen) (_ : c.size ≤ maxLen) (w : World) : Calls Tryd.prog 5 #[.string a, .string b, .string c] w fun e w' => e = .returned (.bool true) ∧ Below w.heap.size w w' := by
  obtain ⟨x, hx⟩ : ∃ x, Lib.compareBytes a.data.toList b.data.toList = x := ⟨_, rfl⟩
  obtain ⟨y, hy⟩ : ∃ y, Lib.compareBytes b.data.toList c.data.toList = y := ⟨_, rfl⟩
  obtain ⟨z, hz⟩ : ∃ z, Lib.compareBytes a.data.toList c.data.toList = z := ⟨_, rfl⟩
  have r1 := cmpB_rng a.data.toList b.data.toList
  have r2 := cmpB_rng b.data.toList c.data.toList
  have r3 := cmpB_rng a.data.toList c.data.toList
  have hs := cmpB_swap a.data.toList b.data.toList
  have ht := cmpB_trans a.data.toList b.data.toList c.data.toList
  have he := cmpB_eq a.data.toList b.data.toList
  rw [hx, hy, hz] at ht
  rw [hx] at r1 hs he
  rw [hy] at r2
  rw [hz] at r3
  have HX := Lib.hid hx
  have HY := Lib.hid hy
  have HZ := Lib.hid hz
  have HS := Lib.hid hs
  have hab : a = b ↔ x = 0 := by
    rw [he]
    constructor
    · rintro rfl; rfl
    · intro h
      cases a; cases b
      simp at h
      simp [h]
  have hwr : IntKind.i64.wrap (-x) = -x := IntWalk.i64_in _ (by omega)
  clear hx hy hz hs he
  go_enter Tryd.func5, Tryd.ntmps5
  go_wp2_with fail
  refine (compare_any a b _).mono ?_
  rintro e w1 ⟨rfl, rfl⟩
  rw [HX.out]
  go_wp2_with fail
  refine (compare_any b c _).mono ?_
  rintro e w1 ⟨rfl, rfl⟩
  rw [HY.out]
  go_wp2_with fail
  refine (compare_any a c _).mono ?_
  rintro e w1 ⟨rfl, rfl⟩
  rw [HZ.out]
  go_wp2_with fail
  refine (rcompare_any a b _ ha hb).mono ?_
  rintro e w2 ⟨rfl, hb2⟩
  rw [HX.out]
  go_wp2_with fail
  refine (compare_any b a _).mono ?_
  rintro e w3 ⟨rfl, rfl⟩
  rw [HS.out]
  clear HX HY HZ HS
  rcases r1 with rfl | rfl | rfl
  · have hne : (a.toList == b.toList) = false := (Lib.bytes_beq_false_iff a b).2 (fun h => by have := hab.1 h; omega)
    clear hab
    rcases r2 with rfl | rfl | rfl <;> rcases r3 with rfl | rfl | rfl <;> first
      | (exfalso; revert ht; decide)
      | (clear ht hwr
         go_wp2_with fail
         refine (awake_any _).mono ?_
         rintro e w4 ⟨rfl, hb4⟩
         go_wp2_with fail
         go_ret
         exact ⟨rfl, hb2.trans (hb4.mono hb2.size)⟩)
  · obtain rfl := hab.2 rfl
    clear hab
    rcases r2 with rfl | rfl | rfl <;> rcases r3 with rfl | rfl | rfl <;> first
      | (exfalso; revert ht; decide)
      | (clear ht hwr
         go_wp2_with fail
         refine (awake_any _).mono ?_
         rintro e w4 ⟨rfl, hb4⟩
         go_wp2_with fail
         go_ret
         exact ⟨rfl, hb2.trans (hb4.mono hb2.size)⟩)
  · have hne : (a.toList == b.toList) = false := (Lib.bytes_beq_false_iff a b).2 (fun h => by have := hab.1 h; omega)
    clear hab
    rcases r2 with rfl | rfl | rfl <;> rcases r3 with rfl | rfl | rfl <;> first
      | (exfalso; revert ht; decide)
      | (clear ht hwr
         go_wp2_with fail
         refine (awake_any _).mono ?_
         rintro e w4 ⟨rfl, hb4⟩
         go_wp2_with fail
         go_ret
         exact ⟨rfl, hb2.trans (hb4.mono hb2.size)⟩)
end Go.Proofs.YtflbcijmfcmilaaDoor
