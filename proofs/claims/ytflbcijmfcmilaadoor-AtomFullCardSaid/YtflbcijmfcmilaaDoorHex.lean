/- Numbers in base 16: FormatInt and the document's hex. -/
import Derived.Test.YtflbcijmfcmilaaDoorSmall
namespace Go.Proofs.YtflbcijmfcmilaaDoor
open Go.RowKit

set_option maxRecDepth 100000 in
theorem fmt16_any (r : Nat) (hr : r < 256) (w : World) (hT : Tz16 w) : Calls Tryd.prog 38 #[.int .i64 r, .int .i64 16] w fun e w' => e = .returned (.string ⟨(hexL r).toArray⟩) ∧ Below w.heap.size w w' := by
  have hk : Calls Tryd.prog 70 #[.slice none 0 0, .int .u64 r, .int .i64 16, .bool false, .bool false] w fun e w' => e = .returned (.tuple #[.slice none 0 0, .string ⟨(hexL r).toArray⟩]) ∧ Below w.heap.size w w' := by
    by_cases h : r < 16
    · exact fmt16_one r h w hT
    · exact fmt16_two r (by omega) hr w hT
  have HK := Lib.hid hk
  have hz : ¬ (r : Int) < 0 := by omega
  have hz' : decide ((r : Int) < 0) = false := by simp
  clear hk hT
  go_enter Tryd.func38, Tryd.ntmps38
  go_wp2_with (first | (go_at_call 56; go_in) | fail)
  refine (HK.out).mono ?_
  rintro e w1 ⟨rfl, hb⟩
  go_wp2_with fail
  go_ret
  exact ⟨rfl, hb⟩

/-- Written as one byte. -/
def EncIs (z : Int) (d : Nat) : Prop := Utf8.encode z = ⟨#[hexD d]⟩
theorem enc_digit (d : Nat) (h : d < 10) : Utf8.encode (48 + (d : Int)) = ⟨#[hexD d]⟩ := by
  have : ∀ d : Fin 10, Utf8.encode (48 + ((d.val : Nat) : Int)) = ⟨#[hexD d.val]⟩ := by decide
  exact this ⟨d, h⟩
theorem enc_letter (d : Nat) (h : 10 ≤ d) (h2 : d < 16) : Utf8.encode (97 + (d : Int) - 10) = ⟨#[hexD d]⟩ := by
  have : ∀ k : Fin 6, Utf8.encode (97 + ((k.val + 10 : Nat) : Int) - 10) = ⟨#[hexD (k.val + 10)]⟩ := by decide
  have := this ⟨d - 10, by omega⟩
  rwa [show d - 10 + 10 = d by omega] at this

set_option maxHeartbeats 1600000 in
set_option maxRecDepth 100000 in
theorem hex_any (r : Nat) (hr : r < 256) (w : World) : Calls Tryd.prog 42 #[.int .i32 r] w fun e w' => e = .returned (.string ⟨(hexL r).toArray⟩) ∧ w' = w := by
  go_enter Tryd.func42, Tryd.ntmps42
  go_wp2_with fail
  go_loopg [0, 3] 2 (fun g s0 s3 wr => ∃ (n : Nat) (t : List UInt8), n < 256 ∧ s0 = .int .i32 n ∧ s3 = .string ⟨t.toArray⟩ ∧ wr = w ∧ Hid ((g = 2 ∧ n = r ∧ t = []) ∨ (g = 1 ∧ 0 < n ∧ n < 16 ∧ 16 ≤ r ∧ n = r / 16 ∧ t = [hexD (r % 16)]) ∨ (g = 0 ∧ n = 0 ∧ t = hexL r)))
  case atStart => exact ⟨r, [], hr, rfl, rfl, rfl, Lib.hid (.inl ⟨rfl, rfl, rfl⟩)⟩
  case round =>
    obtain ⟨n, t, hn, rfl, rfl, rfl, hI⟩ := hrel
    by_cases hg : gk = 0
    · obtain ⟨rfl, HT⟩ : n = 0 ∧ Hid (t = hexL r) := by
        rcases hI.out with ⟨h, _⟩ | ⟨h, _⟩ | ⟨_, h1, h2⟩
        · omega
        · omega
        · exact ⟨h1, Lib.hid h2⟩
      have hne : (t == []) = false := by
        rw [HT.out]
        unfold hexL
        split <;> rfl
      have hne2 : t.isEmpty = false := by
        rw [HT.out]
        unfold hexL
        split <;> rfl
      clear hI
      go_wp2_with fail
      go_ret
      exact ⟨by rw [HT.out]; rfl, rfl⟩
    · obtain ⟨d, hd⟩ : ∃ d : Nat, n % 16 = d := ⟨_, rfl⟩
      obtain ⟨q, hq⟩ : ∃ q : Nat, n / 16 = q := ⟨_, rfl⟩
      have hd16 : d < 16 := by omega
      have hdz : (n : Int) % 16 = (d : Int) := by omega
      have hqz : (n : Int) / 16 = (q : Int) := by omega
      have HI : Hid (∃ g, g < gk ∧ q < 256 ∧ ((g = 2 ∧ q = r ∧ (hexD d :: t) = []) ∨ (g = 1 ∧ 0 < q ∧ q < 16 ∧ 16 ≤ r ∧ q = r / 16 ∧ (hexD d :: t) = [hexD (r % 16)]) ∨ (g = 0 ∧ q = 0 ∧ (hexD d :: t) = hexL r))) := by
        refine Lib.hid ?_
        rcases hI.out with ⟨rfl, rfl, rfl⟩ | ⟨rfl, h1, h2, h3, h4, rfl⟩ | ⟨h, _⟩
        · by_cases h16 : n < 16
          · refine ⟨0, by omega, by omega, .inr (.inr ⟨rfl, by omega, ?_⟩)⟩
            unfold hexL
            rw [if_pos h16, show d = n by omega]
          · exact ⟨1, by omega, by omega, .inr (.inl ⟨rfl, by omega, by omega, by omega, by omega, by rw [← hd]⟩)⟩
        · refine ⟨0, by omega, by omega, .inr (.inr ⟨rfl, by omega, ?_⟩)⟩
          unfold hexL
          rw [if_neg (by omega), show d = r / 16 by omega]
        · omega
      have HT : Hid (n = 0 → t = []) := by
        refine Lib.hid fun h => ?_
        rcases hI.out with ⟨_, _, h⟩ | ⟨_, h1, _⟩ | ⟨h, _⟩
        · exact h
        · omega
        · exact absurd h hg
      have hl : t.length ≤ 1 := by
        rcases hI.out with ⟨_, _, rfl⟩ | ⟨_, _, _, _, _, rfl⟩ | ⟨h, _⟩
        · simp
        · simp
        · exact absurd h hg
      clear hI hd hq
      have hw : (n = 0 → t.isEmpty = true) := fun h => by rw [HT.out h]; rfl
      have hend : ∀ x : ByteArray, x = ⟨#[hexD d]⟩ → x ++ (⟨t.toArray⟩ : ByteArray) = ⟨(hexD d :: t).toArray⟩ := by
        rintro x rfl
        apply ByteArray.ext
        simp [ByteArray.data_append]
      have HEND := Lib.hid hend
      clear HT hend
      by_cases h0 : n = 0
      · have hte := hw h0
        obtain rfl : d = 0 := by omega
        obtain rfl : q = 0 := by omega
        have hE0 : Utf8.encode 48 = ⟨#[48]⟩ := by decide
        subst h0
        clear hw hdz hqz hd16 hn
        go_wp2_with fail
        obtain ⟨g, hg1, hg2, hg3⟩ := HI.out
        go_roundg g
        case measure => omega
        case rel => exact ⟨0, hexD 0 :: t, hg2, rfl, by rw [← HEND.out ⟨#[48]⟩ (by decide)], rfl, Lib.hid (by simpa using hg3)⟩
      · have h0' : 0 < n := by omega
        clear hw
        by_cases h10 : d < 10
        · have hs : ¬ 9223372036854775807 < (Utf8.encode (48 + (d : Int))).size + t.length := by
            rw [enc_digit d h10]
            show ¬ _ < 1 + _
            omega
          clear hl
          go_wp2_with fail
          obtain ⟨g, hg1, hg2, hg3⟩ := HI.out
          have HE := enc_digit d h10
          go_roundg g
          case measure => omega
          case rel => exact ⟨q, hexD d :: t, hg2, rfl, by rw [HEND.out _ HE], rfl, Lib.hid hg3⟩
        · have hs : ¬ 9223372036854775807 < (Utf8.encode (97 + (d : Int) - 10)).size + t.length := by
            rw [enc_letter d (by omega) hd16]
            show ¬ _ < 1 + _
            omega
          have h10' : 10 ≤ d := by omega
          clear hl
          go_wp2_with fail
          obtain ⟨g, hg1, hg2, hg3⟩ := HI.out
          have HE := enc_letter d (by omega) hd16
          go_roundg g
          case measure => omega
          case rel => exact ⟨q, hexD d :: t, hg2, rfl, by rw [HEND.out _ HE], rfl, Lib.hid hg3⟩
end Go.Proofs.YtflbcijmfcmilaaDoor
