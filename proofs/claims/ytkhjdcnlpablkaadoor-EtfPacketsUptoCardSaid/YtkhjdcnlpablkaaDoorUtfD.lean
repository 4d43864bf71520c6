/- The document's utf8: byte by byte. -/
import Derived.Test.YtkhjdcnlpablkaaDoorSpel
import Derived.Laws.BitsLemmas
namespace Go.Proofs.YtkhjdcnlpablkaaDoor
open Go.RowKit Go.Shelf
open Go.Lib (decodeL validD)

/-- The byte at a place; does it go on with a rune? -/
def byt (s : ByteArray) (j : Nat) : Nat := (s.get! j).toNat
def cnt (s : ByteArray) (j : Nat) : Bool := decide (j < s.size) && byt s j / 64 == 2

theorem byt_lt (s : ByteArray) (j : Nat) : byt s j < 256 := by unfold byt; exact UInt8.toNat_lt _
theorem byt_at {s : ByteArray} {j : Nat} (h : j < s.size) : s[j].toNat = byt s j := by
  unfold byt
  have h' : j < s.data.size := h
  have : s.get! j = s[j] := by
    cases s with
    | mk a => simp only [ByteArray.get!]; exact getElem!_pos a j h'
  rw [this]

theorem dec_def (s : ByteArray) (i : Nat) : Utf8.decode s i =
    if byt s i < 128 then (byt s i, 1)
    else if byt s i / 32 == 6 && cnt s (i + 1) then
      if byt s i % 32 * 64 + byt s (i + 1) % 64 ≥ 128 then (byt s i % 32 * 64 + byt s (i + 1) % 64, 2) else (65533, 1)
    else if byt s i / 16 == 14 && cnt s (i + 1) && cnt s (i + 2) then
      if byt s i % 16 * 4096 + byt s (i + 1) % 64 * 64 + byt s (i + 2) % 64 ≥ 2048 && Utf8.valid ((byt s i % 16 * 4096 + byt s (i + 1) % 64 * 64 + byt s (i + 2) % 64 : Nat) : Int) then (byt s i % 16 * 4096 + byt s (i + 1) % 64 * 64 + byt s (i + 2) % 64, 3) else (65533, 1)
    else if byt s i / 8 == 30 && cnt s (i + 1) && cnt s (i + 2) && cnt s (i + 3) then
      if byt s i % 8 * 262144 + byt s (i + 1) % 64 * 4096 + byt s (i + 2) % 64 * 64 + byt s (i + 3) % 64 ≥ 65536 && Utf8.valid ((byt s i % 8 * 262144 + byt s (i + 1) % 64 * 4096 + byt s (i + 2) % 64 * 64 + byt s (i + 3) % 64 : Nat) : Int) then (byt s i % 8 * 262144 + byt s (i + 1) % 64 * 4096 + byt s (i + 2) % 64 * 64 + byt s (i + 3) % 64, 4) else (65533, 1)
    else (65533, 1) := rfl

theorem valid_at {s : ByteArray} {i : Nat} (h : i < s.size) {r k : Nat} (hd : Utf8.decode s i = (r, k)) : validD (s.data.toList.drop i) = (!badD (r, k) && validD (s.data.toList.drop (i + k))) := by
  have hne : s.data.toList.drop i ≠ [] := by rw [drop_at h]; simp
  rw [validD_step hne, Lib.decodeL_drop, hd, List.drop_drop]

/-- How a first byte is read: how many follow, the least number, the bits. -/
def lead (b : Nat) : Option (Nat × Nat × Nat) :=
  if 194 ≤ b ∧ b < 224 then some (1, 128, b % 32) else if 224 ≤ b ∧ b < 240 then some (2, 2048, b % 16) else if 240 ≤ b ∧ b < 245 then some (3, 65536, b % 8) else none

def pv (s : ByteArray) (i m : Nat) : Nat → Nat
  | 0 => m
  | k + 1 => pv s i m k * 64 + byt s (i + (k + 1)) % 64

def fits (least r : Nat) : Bool := decide (least ≤ r ∧ r ≤ 1114111 ∧ ¬ (55296 ≤ r ∧ r < 57344))

theorem utf_one {s : ByteArray} {i : Nat} (h : i < s.size) (hb : byt s i < 128) : validD (s.data.toList.drop i) = validD (s.data.toList.drop (i + 1)) := by
  have hd := dec_def s i
  rw [if_pos hb] at hd
  rw [valid_at h hd, show badD (byt s i, 1) = false by unfold badD; simp; omega]
  rfl

theorem valid_fits (v : Nat) : Utf8.valid (v : Int) = decide (v ≤ 1114111 ∧ ¬ (55296 ≤ v ∧ v < 57344)) := by
  unfold Utf8.valid
  rw [Bool.eq_iff_iff]
  simp
  omega

theorem utf_none {s : ByteArray} {i : Nat} (h : i < s.size) (hb : 128 ≤ byt s i) (hl : lead (byt s i) = none) : validD (s.data.toList.drop i) = false := by
  have hlt := byt_lt s i
  have hr : byt s i < 194 ∨ 245 ≤ byt s i := by
    unfold lead at hl
    split at hl
    · cases hl
    · split at hl
      · cases hl
      · split at hl
        · cases hl
        · omega
  have hd : Utf8.decode s i = (65533, 1) := by
    rw [dec_def, if_neg (by omega)]
    split
    · rename_i h1
      simp at h1
      rw [if_neg (by omega)]
    · split
      · rename_i h1
        simp at h1
        omega
      · split
        · rename_i h1
          simp at h1
          rw [if_neg]
          rw [valid_fits]
          simp
          omega
        · rfl
  rw [valid_at h hd]
  rfl

open Classical in
theorem utf_lead {s : ByteArray} {i n least m : Nat} (h : i < s.size) (hl : lead (byt s i) = some (n, least, m)) :
    validD (s.data.toList.drop i) = if (∀ j, 1 ≤ j → j ≤ n → cnt s (i + j) = true) ∧ fits least (pv s i m n) = true then validD (s.data.toList.drop (i + n + 1)) else false := by
  have hlt := byt_lt s i
  have bad : Utf8.decode s i = (65533, 1) → validD (s.data.toList.drop i) = false := fun hd => by rw [valid_at h hd]; rfl
  have good : ∀ r k, 2 ≤ k → Utf8.decode s i = (r, k) → validD (s.data.toList.drop i) = validD (s.data.toList.drop (i + k)) := fun r k hk hd => by
    rw [valid_at h hd, show badD (r, k) = false by unfold badD; simp; omega]; rfl
  unfold lead at hl
  split at hl
  · rename_i hr
    cases hl
    have hd := dec_def s i
    rw [if_neg (by omega)] at hd
    by_cases c1 : cnt s (i + 1) = true
    · rw [if_pos (by simp [c1]; omega), if_pos (by omega)] at hd
      rw [good _ 2 (by omega) hd, if_pos ⟨fun j h1 h2 => by
        obtain rfl : j = 1 := by omega
        exact c1, by unfold fits; simp [pv]; omega⟩]
    · rw [if_neg (by simp [c1]), if_neg (by simp; omega), if_neg (by simp; omega)] at hd
      rw [bad hd, if_neg (fun hh => c1 (hh.1 1 (by omega) (by omega)))]
  · split at hl
    · rename_i hr0 hr
      cases hl
      have hd := dec_def s i
      rw [if_neg (by omega), if_neg (by simp; omega)] at hd
      by_cases c1 : cnt s (i + 1) = true
      · by_cases c2 : cnt s (i + 2) = true
        · rw [if_pos (by simp [c1, c2]; omega)] at hd
          by_cases hf : fits 2048 (pv s i (byt s i % 16) 2) = true
          · have hf' := hf
            unfold fits at hf'
            simp [pv] at hf'
            rw [if_pos (by rw [valid_fits]; simp; omega)] at hd
            rw [good _ 3 (by omega) hd, if_pos ⟨fun j h1 h2 => by
              rcases (show j = 1 ∨ j = 2 by omega) with rfl | rfl
              · exact c1
              · exact c2, hf⟩]
          · have hf' := hf
            unfold fits at hf'
            simp [pv] at hf'
            rw [if_neg (by rw [valid_fits]; simp; omega)] at hd
            rw [bad hd, if_neg (fun hh => hf hh.2)]
        · rw [if_neg (by simp [c2]), if_neg (by simp; omega)] at hd
          rw [bad hd, if_neg (fun hh => c2 (hh.1 2 (by omega) (by omega)))]
      · rw [if_neg (by simp [c1]), if_neg (by simp; omega)] at hd
        rw [bad hd, if_neg (fun hh => c1 (hh.1 1 (by omega) (by omega)))]
    · split at hl
      · rename_i hr0 hr1 hr
        cases hl
        have hd := dec_def s i
        rw [if_neg (by omega), if_neg (by simp; omega), if_neg (by simp; omega)] at hd
        by_cases c : cnt s (i + 1) = true ∧ cnt s (i + 2) = true ∧ cnt s (i + 3) = true
        · obtain ⟨c1, c2, c3⟩ := c
          rw [if_pos (by simp [c1, c2, c3]; omega)] at hd
          by_cases hf : fits 65536 (pv s i (byt s i % 8) 3) = true
          · have hf' := hf
            unfold fits at hf'
            simp [pv] at hf'
            rw [if_pos (by rw [valid_fits]; simp; omega)] at hd
            rw [good _ 4 (by omega) hd, if_pos ⟨fun j h1 h2 => by
              rcases (show j = 1 ∨ j = 2 ∨ j = 3 by omega) with rfl | rfl | rfl
              · exact c1
              · exact c2
              · exact c3, hf⟩]
          · have hf' := hf
            unfold fits at hf'
            simp [pv] at hf'
            rw [if_neg (by rw [valid_fits]; simp; omega)] at hd
            rw [bad hd, if_neg (fun hh => hf hh.2)]
        · rw [if_neg (by simp only [Bool.and_eq_true]; intro hh; exact c ⟨hh.1.1.2, hh.1.2, hh.2⟩)] at hd
          rw [bad hd, if_neg (fun hh => c ⟨hh.1 1 (by omega) (by omega), hh.1 2 (by omega) (by omega), hh.1 3 (by omega) (by omega)⟩)]
      · cases hl
/-! ### The walk -/
set_option maxRecDepth 100000 in
theorem u8_and192 (x : Nat) (h : x < 256) : bits .and .u8 (x : Int) 192 = (((x / 64) * 64 : Nat) : Int) := by
  have h1 := (bits_nat .u8 8 (by decide) wraps_u8 x 192 (by omega) (by decide)).1
  have h2 : ∀ y : Fin 256, y.val &&& 192 = y.val / 64 * 64 := by decide
  rw [show ((192 : Nat) : Int) = 192 from rfl] at h1
  rw [h1, h2 ⟨x, h⟩]
theorem wraps_i64 (n : Int) (h₀ : 0 ≤ n) (h₁ : n < 2 ^ 62) : IntKind.i64.wrap n = n := by rw [IntKind.wrap_i64]; omega
theorem i64_mask (x j : Nat) (h : x < 256) (hj : j ≤ 8) : bits .and .i64 (x : Int) (2 ^ j - 1) = ((x % 2 ^ j : Nat) : Int) := by
  rw [bits_mask .i64 62 (by decide) wraps_i64 j (by omega) (x : Int) (by omega) (by omega)]
  simp
theorem pv_lt (s : ByteArray) (i m : Nat) (hm : m < 32) : ∀ k, k ≤ 3 → pv s i m k < 32 * 64 ^ k
  | 0, _ => by simpa [pv] using hm
  | k + 1, h => by
    have := pv_lt s i m hm k (by omega)
    have := Nat.mod_lt (byt s (i + (k + 1))) (show 0 < 64 by omega)
    simp only [pv, Nat.pow_succ]
    omega

set_option maxHeartbeats 3200000 in
set_option maxRecDepth 100000 in
theorem utf8_any (s : ByteArray) (hs : s.size ≤ 1000000000000) (w : World) : Calls Tryd.prog 71 #[.string s] w fun e w' => e = .returned (.bool (validD s.data.toList)) ∧ w' = w := by
  go_enter Tryd.func71, Tryd.ntmps71
  go_wp2_with fail
  go_loopg [3, 4, 5, 6, 7, 8] s.size (fun g s3 _ _ _ _ _ wr => ∃ pos : Nat, s3 = .int .i64 pos ∧ pos ≤ s.size ∧ s.size - pos ≤ g ∧ wr = w ∧ Hid (validD s.data.toList = validD (s.data.toList.drop pos)))
  case atStart => exact ⟨0, rfl, by omega, by omega, rfl, Lib.hid rfl⟩
  case round =>
    obtain ⟨pos, rfl, hp, hg, rfl, hI⟩ := hrel
    by_cases hlt : pos < s.size
    · obtain ⟨b, hb⟩ : ∃ b, byt s pos = b := ⟨_, rfl⟩
      have hbx : s[pos].toNat = b := (byt_at hlt).trans hb
      have hb256 : b < 256 := by rw [← hb]; exact byt_lt s pos
      have HB := Lib.hid hb
      clear hb
      by_cases h128 : b < 128
      · have HF : Hid (validD s.data.toList = validD (s.data.toList.drop (pos + 1))) := Lib.hid (by rw [hI.out, utf_one hlt (by rw [HB.out]; exact h128)])
        have q : decide ((b : Int) < 128) = true := decide_eq_true (by omega)
        clear hI
        go_wp2_with fail
        go_roundg (s.size - (pos + 1))
        case measure => omega
        case rel => exact ⟨pos + 1, by go_num, by omega, by omega, rfl, HF⟩
      · have q : decide ((b : Int) < 128) = false := decide_eq_false (by omega)
        cases hl : lead b with
        | none =>
          have HF : Hid (validD s.data.toList = false) := Lib.hid (by rw [hI.out, utf_none hlt (by rw [HB.out]; omega) (by rw [HB.out]; exact hl)])
          have hr : b < 194 ∨ 245 ≤ b := by
            unfold lead at hl
            split at hl
            · cases hl
            · split at hl
              · cases hl
              · split at hl
                · cases hl
                · omega
          clear hI hl
          rcases hr with hr | hr
          · have e0 : decide ((194 : Int) ≤ (b : Int)) = false := decide_eq_false (by omega)
            have e1 : decide ((b : Int) < 224) = true := decide_eq_true (by omega)
            have e2 : decide ((224 : Int) ≤ (b : Int)) = false := decide_eq_false (by omega)
            have e3 : decide ((b : Int) < 240) = true := decide_eq_true (by omega)
            have e4 : decide ((240 : Int) ≤ (b : Int)) = false := decide_eq_false (by omega)
            have e5 : decide ((b : Int) < 245) = true := decide_eq_true (by omega)
            clear h128 hr
            go_wp2_with fail
            go_ret
            exact ⟨by rw [HF.out]; rfl, rfl⟩
          · have e0 : decide ((194 : Int) ≤ (b : Int)) = true := decide_eq_true (by omega)
            have e1 : decide ((b : Int) < 224) = false := decide_eq_false (by omega)
            have e2 : decide ((224 : Int) ≤ (b : Int)) = true := decide_eq_true (by omega)
            have e3 : decide ((b : Int) < 240) = false := decide_eq_false (by omega)
            have e4 : decide ((240 : Int) ≤ (b : Int)) = true := decide_eq_true (by omega)
            have e5 : decide ((b : Int) < 245) = false := decide_eq_false (by omega)
            clear h128 hr
            go_wp2_with fail
            go_ret
            exact ⟨by rw [HF.out]; rfl, rfl⟩
        | some p =>
          obtain ⟨n, least, m⟩ := p
          have hut := utf_lead hlt (by rw [HB.out]; exact hl)
          rw [← hI.out] at hut
          have HU := Lib.hid hut
          clear hI hut
          have hl' := hl
          unfold lead at hl'
          split at hl'
          · rename_i hr
            cases hl'
            obtain ⟨m, hm⟩ : ∃ m, b % 32 = m := ⟨_, rfl⟩
            have hm32 : m < 32 := by omega
            have hand : bits .and .i64 (b : Int) 31 = (m : Int) := by rw [← hm]; exact i64_mask b 5 hb256 (by omega)
            rw [hm] at HU
            have e0 : decide ((194 : Int) ≤ (b : Int)) = true := decide_eq_true (by omega)
            have e1 : decide ((b : Int) < 224) = true := decide_eq_true (by omega)
            have e2 : decide ((224 : Int) ≤ (b : Int)) = false := decide_eq_false (by omega)
            have e3 : decide ((b : Int) < 240) = true := decide_eq_true (by omega)
            have e4 : decide ((240 : Int) ≤ (b : Int)) = false := decide_eq_false (by omega)
            have e5 : decide ((b : Int) < 245) = true := decide_eq_true (by omega)
            clear h128 hr hm hl
            go_wp2_with fail
            go_loopg [7, 8] 1 (fun g s7 s8 wq => ∃ k : Nat, k + g = 1 ∧ s8 = .int .i64 ((k : Int) + 1) ∧ s7 = .int .i64 (pv s pos m k) ∧ wq = wr ∧ Hid (∀ j, 1 ≤ j → j ≤ k → cnt s (pos + j) = true))
            case atStart => exact ⟨0, by omega, by go_num, rfl, rfl, Lib.hid (by omega)⟩
            case round =>
              obtain ⟨k, hk, rfl, rfl, rfl, hC⟩ := hrel
              have hpv := pv_lt s pos m hm32 k (by omega)
              have hpv3 : pv s pos m k < 8388608 := by
                have : (64 : Nat) ^ k ≤ 64 ^ 3 := Nat.pow_le_pow_right (by omega) (by omega)
                omega
              obtain ⟨r, hr⟩ : ∃ r, pv s pos m k = r := ⟨_, rfl⟩
              rw [hr] at hpv3 ⊢
              have HR := Lib.hid hr
              clear hpv hr
              by_cases hkn : k < 1
              · have q5 : decide ((k : Int) + 1 ≤ 1) = true := decide_eq_true (by omega)
                by_cases hc : cnt s (pos + (k + 1)) = true
                · have hc' := hc
                  unfold cnt at hc'
                  simp at hc'
                  obtain ⟨hq1, hq2⟩ := hc'
                  obtain ⟨x, hx⟩ : ∃ x, pos + (k + 1) = x := ⟨_, rfl⟩
                  have he : (pos : Int) + ((k : Int) + 1) = (x : Int) := by omega
                  rw [hx] at hq1 hq2
                  have HX := Lib.hid hx
                  obtain ⟨y, hy⟩ : ∃ y, byt s x = y := ⟨_, rfl⟩
                  have hyx : s[x].toNat = y := (byt_at hq1).trans hy
                  have hy256 : y < 256 := by rw [← hy]; exact byt_lt s x
                  rw [hy] at hq2
                  have HY := Lib.hid hy
                  have a1 : bits .and .u8 (y : Int) 192 = 128 := by rw [u8_and192 y hy256]; omega
                  have a2 : bits .and .u8 (y : Int) 63 = ((y % 64 : Nat) : Int) := by rw [u8_and63 _ (by omega) (by omega)]; omega
                  obtain ⟨z, hz⟩ : ∃ z, y % 64 = z := ⟨_, rfl⟩
                  rw [hz] at a2
                  have hz64 : z < 64 := by omega
                  have q6 : decide ((s.size : Int) ≤ (x : Int)) = false := decide_eq_false (by omega)
                  obtain ⟨v, hv⟩ : ∃ v, r * 64 + z = v := ⟨_, rfl⟩
                  have hsum : (r : Int) * 64 + (z : Int) = (v : Int) := by omega
                  have HC : Hid (∀ j, 1 ≤ j → j ≤ k + 1 → cnt s (pos + j) = true) := Lib.hid (fun j h1 h2 => by
                    rcases Nat.lt_or_ge j (k + 1) with h | h
                    · exact hC.out j h1 (by omega)
                    · obtain rfl : j = k + 1 := by omega
                      exact hc)
                  have HP : Hid (pv s pos m (k + 1) = v) := Lib.hid (by
                    show pv s pos m k * 64 + byt s (pos + (k + 1)) % 64 = _
                    rw [HR.out, HX.out, HY.out, hz, hv])
                  have HE := Lib.hid (⟨hq1, hk⟩ : x < s.size ∧ k + gk = 1)
                  clear hc hC hx hy hz hq2 hk hv
                  go_wp2_with fail
                  go_roundg (gk - 1)
                  case measure => have := HE.out; omega
                  case rel => exact ⟨k + 1, by have := HE.out; omega, by go_num, by rw [HP.out], rfl, HC⟩
                · have HF : Hid (validD s.data.toList = false) := Lib.hid (by rw [HU.out, if_neg (fun hh => hc (hh.1 (k + 1) (by omega) (by omega)))])
                  obtain ⟨x, hx⟩ : ∃ x, pos + (k + 1) = x := ⟨_, rfl⟩
                  have he : (pos : Int) + ((k : Int) + 1) = (x : Int) := by omega
                  rw [hx] at hc
                  by_cases hxs : x < s.size
                  · obtain ⟨y, hy⟩ : ∃ y, byt s x = y := ⟨_, rfl⟩
                    have hyx : s[x].toNat = y := (byt_at hxs).trans hy
                    have hy256 : y < 256 := by rw [← hy]; exact byt_lt s x
                    have hy2 : y / 64 ≠ 2 := by
                      intro e
                      apply hc
                      unfold cnt
                      rw [hy, e, decide_eq_true hxs]
                      rfl
                    have a1 := u8_and192 y hy256
                    obtain ⟨z, hz⟩ : ∃ z, y / 64 * 64 = z := ⟨_, rfl⟩
                    rw [hz] at a1
                    have q7 : ((z : Int) == 128) = false := by simp; omega
                    have q8 : ((z : Int) != 128) = true := by simp; omega
                    have q6 : decide ((s.size : Int) ≤ (x : Int)) = false := decide_eq_false (by omega)
                    clear hc hx hy hz hy2 hC hk HU
                    go_wp2_with fail
                    go_ret
                    exact ⟨by rw [HF.out]; rfl, rfl⟩
                  · have q6 : decide ((s.size : Int) ≤ (x : Int)) = true := decide_eq_true (by omega)
                    have q6n : decide (s.size ≤ x) = true := decide_eq_true (by omega)
                    clear hc hx hC hk HU hxs
                    go_wp2_with fail
                    go_ret
                    exact ⟨by rw [HF.out]; rfl, rfl⟩
              · obtain rfl : k = 1 := by omega
                by_cases hf : fits 128 r = true
                · have HF : Hid (validD s.data.toList = validD (s.data.toList.drop (pos + 1 + 1))) := Lib.hid (by
                    rw [HU.out, if_pos ⟨fun j h1 h2 => hC.out j h1 h2, by rw [HR.out]; exact hf⟩])
                  have hin : pos + 1 < s.size := by
                    have := hC.out 1 (by omega) (by omega)
                    unfold cnt at this
                    simp at this
                    omega
                  unfold fits at hf
                  simp at hf
                  have p1 : decide ((r : Int) < 128) = false := decide_eq_false (by omega)
                  have p2 : decide ((1114111 : Int) < (r : Int)) = false := decide_eq_false (by omega)
                  have hs3 : r < 55296 ∨ 57344 ≤ r := by omega
                  clear hf hC hk HU
                  rcases hs3 with h3 | h3
                  · have p3 : decide ((55296 : Int) ≤ (r : Int)) = false := decide_eq_false (by omega)
                    go_wp2_with fail
                    go_roundg (s.size - (pos + 1 + 1))
                    case measure => omega
                    case rel => exact ⟨pos + 1 + 1, by go_num, by omega, by omega, rfl, HF⟩
                  · have p3 : decide ((55296 : Int) ≤ (r : Int)) = true := decide_eq_true (by omega)
                    have p4 : decide ((r : Int) < 57344) = false := decide_eq_false (by omega)
                    go_wp2_with fail
                    go_roundg (s.size - (pos + 1 + 1))
                    case measure => omega
                    case rel => exact ⟨pos + 1 + 1, by go_num, by omega, by omega, rfl, HF⟩
                · have HF : Hid (validD s.data.toList = false) := Lib.hid (by rw [HU.out, if_neg (fun hh => hf (by have := hh.2; rwa [HR.out] at this))])
                  have hs3 : r < 128 ∨ 1114111 < r ∨ (55296 ≤ r ∧ r < 57344) := by
                    unfold fits at hf
                    simp at hf
                    omega
                  clear hf hC hk HU
                  by_cases h1 : r < 128
                  · have p1 : decide ((r : Int) < 128) = true := decide_eq_true (by omega)
                    go_wp2_with fail
                    go_ret
                    exact ⟨by rw [HF.out]; rfl, rfl⟩
                  · have p1 : decide ((r : Int) < 128) = false := decide_eq_false (by omega)
                    by_cases h2 : 1114111 < r
                    · have p2 : decide ((1114111 : Int) < (r : Int)) = true := decide_eq_true (by omega)
                      go_wp2_with fail
                      go_ret
                      exact ⟨by rw [HF.out]; rfl, rfl⟩
                    · have p2 : decide ((1114111 : Int) < (r : Int)) = false := decide_eq_false (by omega)
                      have p3 : decide ((55296 : Int) ≤ (r : Int)) = true := decide_eq_true (by omega)
                      have p4 : decide ((r : Int) < 57344) = true := decide_eq_true (by omega)
                      go_wp2_with fail
                      go_ret
                      exact ⟨by rw [HF.out]; rfl, rfl⟩
          · split at hl'
            · rename_i hr0 hr
              cases hl'
              obtain ⟨m, hm⟩ : ∃ m, b % 16 = m := ⟨_, rfl⟩
              have hm32 : m < 32 := by omega
              have hand : bits .and .i64 (b : Int) 15 = (m : Int) := by rw [← hm]; exact i64_mask b 4 hb256 (by omega)
              rw [hm] at HU
              have e0 : decide ((194 : Int) ≤ (b : Int)) = true := decide_eq_true (by omega)
              have e1 : decide ((b : Int) < 224) = false := decide_eq_false (by omega)
              have e2 : decide ((224 : Int) ≤ (b : Int)) = true := decide_eq_true (by omega)
              have e3 : decide ((b : Int) < 240) = true := decide_eq_true (by omega)
              have e4 : decide ((240 : Int) ≤ (b : Int)) = false := decide_eq_false (by omega)
              have e5 : decide ((b : Int) < 245) = true := decide_eq_true (by omega)
              clear h128 hr hm hl
              go_wp2_with fail
              go_loopg [7, 8] 2 (fun g s7 s8 wq => ∃ k : Nat, k + g = 2 ∧ s8 = .int .i64 ((k : Int) + 1) ∧ s7 = .int .i64 (pv s pos m k) ∧ wq = wr ∧ Hid (∀ j, 1 ≤ j → j ≤ k → cnt s (pos + j) = true))
              case atStart => exact ⟨0, by omega, by go_num, rfl, rfl, Lib.hid (by omega)⟩
              case round =>
                obtain ⟨k, hk, rfl, rfl, rfl, hC⟩ := hrel
                have hpv := pv_lt s pos m hm32 k (by omega)
                have hpv3 : pv s pos m k < 8388608 := by
                  have : (64 : Nat) ^ k ≤ 64 ^ 3 := Nat.pow_le_pow_right (by omega) (by omega)
                  omega
                obtain ⟨r, hr⟩ : ∃ r, pv s pos m k = r := ⟨_, rfl⟩
                rw [hr] at hpv3 ⊢
                have HR := Lib.hid hr
                clear hpv hr
                by_cases hkn : k < 2
                · have q5 : decide ((k : Int) + 1 ≤ 2) = true := decide_eq_true (by omega)
                  by_cases hc : cnt s (pos + (k + 1)) = true
                  · have hc' := hc
                    unfold cnt at hc'
                    simp at hc'
                    obtain ⟨hq1, hq2⟩ := hc'
                    obtain ⟨x, hx⟩ : ∃ x, pos + (k + 1) = x := ⟨_, rfl⟩
                    have he : (pos : Int) + ((k : Int) + 1) = (x : Int) := by omega
                    rw [hx] at hq1 hq2
                    have HX := Lib.hid hx
                    obtain ⟨y, hy⟩ : ∃ y, byt s x = y := ⟨_, rfl⟩
                    have hyx : s[x].toNat = y := (byt_at hq1).trans hy
                    have hy256 : y < 256 := by rw [← hy]; exact byt_lt s x
                    rw [hy] at hq2
                    have HY := Lib.hid hy
                    have a1 : bits .and .u8 (y : Int) 192 = 128 := by rw [u8_and192 y hy256]; omega
                    have a2 : bits .and .u8 (y : Int) 63 = ((y % 64 : Nat) : Int) := by rw [u8_and63 _ (by omega) (by omega)]; omega
                    obtain ⟨z, hz⟩ : ∃ z, y % 64 = z := ⟨_, rfl⟩
                    rw [hz] at a2
                    have hz64 : z < 64 := by omega
                    have q6 : decide ((s.size : Int) ≤ (x : Int)) = false := decide_eq_false (by omega)
                    obtain ⟨v, hv⟩ : ∃ v, r * 64 + z = v := ⟨_, rfl⟩
                    have hsum : (r : Int) * 64 + (z : Int) = (v : Int) := by omega
                    have HC : Hid (∀ j, 1 ≤ j → j ≤ k + 1 → cnt s (pos + j) = true) := Lib.hid (fun j h1 h2 => by
                      rcases Nat.lt_or_ge j (k + 1) with h | h
                      · exact hC.out j h1 (by omega)
                      · obtain rfl : j = k + 1 := by omega
                        exact hc)
                    have HP : Hid (pv s pos m (k + 1) = v) := Lib.hid (by
                      show pv s pos m k * 64 + byt s (pos + (k + 1)) % 64 = _
                      rw [HR.out, HX.out, HY.out, hz, hv])
                    have HE := Lib.hid (⟨hq1, hk⟩ : x < s.size ∧ k + gk = 2)
                    clear hc hC hx hy hz hq2 hk hv
                    go_wp2_with fail
                    go_roundg (gk - 1)
                    case measure => have := HE.out; omega
                    case rel => exact ⟨k + 1, by have := HE.out; omega, by go_num, by rw [HP.out], rfl, HC⟩
                  · have HF : Hid (validD s.data.toList = false) := Lib.hid (by rw [HU.out, if_neg (fun hh => hc (hh.1 (k + 1) (by omega) (by omega)))])
                    obtain ⟨x, hx⟩ : ∃ x, pos + (k + 1) = x := ⟨_, rfl⟩
                    have he : (pos : Int) + ((k : Int) + 1) = (x : Int) := by omega
                    rw [hx] at hc
                    by_cases hxs : x < s.size
                    · obtain ⟨y, hy⟩ : ∃ y, byt s x = y := ⟨_, rfl⟩
                      have hyx : s[x].toNat = y := (byt_at hxs).trans hy
                      have hy256 : y < 256 := by rw [← hy]; exact byt_lt s x
                      have hy2 : y / 64 ≠ 2 := by
                        intro e
                        apply hc
                        unfold cnt
                        rw [hy, e, decide_eq_true hxs]
                        rfl
                      have a1 := u8_and192 y hy256
                      obtain ⟨z, hz⟩ : ∃ z, y / 64 * 64 = z := ⟨_, rfl⟩
                      rw [hz] at a1
                      have q7 : ((z : Int) == 128) = false := by simp; omega
                      have q8 : ((z : Int) != 128) = true := by simp; omega
                      have q6 : decide ((s.size : Int) ≤ (x : Int)) = false := decide_eq_false (by omega)
                      clear hc hx hy hz hy2 hC hk HU
                      go_wp2_with fail
                      go_ret
                      exact ⟨by rw [HF.out]; rfl, rfl⟩
                    · have q6 : decide ((s.size : Int) ≤ (x : Int)) = true := decide_eq_true (by omega)
                      have q6n : decide (s.size ≤ x) = true := decide_eq_true (by omega)
                      clear hc hx hC hk HU hxs
                      go_wp2_with fail
                      go_ret
                      exact ⟨by rw [HF.out]; rfl, rfl⟩
                · obtain rfl : k = 2 := by omega
                  by_cases hf : fits 2048 r = true
                  · have HF : Hid (validD s.data.toList = validD (s.data.toList.drop (pos + 2 + 1))) := Lib.hid (by
                      rw [HU.out, if_pos ⟨fun j h1 h2 => hC.out j h1 h2, by rw [HR.out]; exact hf⟩])
                    have hin : pos + 2 < s.size := by
                      have := hC.out 2 (by omega) (by omega)
                      unfold cnt at this
                      simp at this
                      omega
                    unfold fits at hf
                    simp at hf
                    have p1 : decide ((r : Int) < 2048) = false := decide_eq_false (by omega)
                    have p2 : decide ((1114111 : Int) < (r : Int)) = false := decide_eq_false (by omega)
                    have hs3 : r < 55296 ∨ 57344 ≤ r := by omega
                    clear hf hC hk HU
                    rcases hs3 with h3 | h3
                    · have p3 : decide ((55296 : Int) ≤ (r : Int)) = false := decide_eq_false (by omega)
                      go_wp2_with fail
                      go_roundg (s.size - (pos + 2 + 1))
                      case measure => omega
                      case rel => exact ⟨pos + 2 + 1, by go_num, by omega, by omega, rfl, HF⟩
                    · have p3 : decide ((55296 : Int) ≤ (r : Int)) = true := decide_eq_true (by omega)
                      have p4 : decide ((r : Int) < 57344) = false := decide_eq_false (by omega)
                      go_wp2_with fail
                      go_roundg (s.size - (pos + 2 + 1))
                      case measure => omega
                      case rel => exact ⟨pos + 2 + 1, by go_num, by omega, by omega, rfl, HF⟩
                  · have HF : Hid (validD s.data.toList = false) := Lib.hid (by rw [HU.out, if_neg (fun hh => hf (by have := hh.2; rwa [HR.out] at this))])
                    have hs3 : r < 2048 ∨ 1114111 < r ∨ (55296 ≤ r ∧ r < 57344) := by
                      unfold fits at hf
                      simp at hf
                      omega
                    clear hf hC hk HU
                    by_cases h1 : r < 2048
                    · have p1 : decide ((r : Int) < 2048) = true := decide_eq_true (by omega)
                      go_wp2_with fail
                      go_ret
                      exact ⟨by rw [HF.out]; rfl, rfl⟩
                    · have p1 : decide ((r : Int) < 2048) = false := decide_eq_false (by omega)
                      by_cases h2 : 1114111 < r
                      · have p2 : decide ((1114111 : Int) < (r : Int)) = true := decide_eq_true (by omega)
                        go_wp2_with fail
                        go_ret
                        exact ⟨by rw [HF.out]; rfl, rfl⟩
                      · have p2 : decide ((1114111 : Int) < (r : Int)) = false := decide_eq_false (by omega)
                        have p3 : decide ((55296 : Int) ≤ (r : Int)) = true := decide_eq_true (by omega)
                        have p4 : decide ((r : Int) < 57344) = true := decide_eq_true (by omega)
                        go_wp2_with fail
                        go_ret
                        exact ⟨by rw [HF.out]; rfl, rfl⟩
            · split at hl'
              · rename_i hr0 hr1 hr
                cases hl'
                obtain ⟨m, hm⟩ : ∃ m, b % 8 = m := ⟨_, rfl⟩
                have hm32 : m < 32 := by omega
                have hand : bits .and .i64 (b : Int) 7 = (m : Int) := by rw [← hm]; exact i64_mask b 3 hb256 (by omega)
                rw [hm] at HU
                have e0 : decide ((194 : Int) ≤ (b : Int)) = true := decide_eq_true (by omega)
                have e1 : decide ((b : Int) < 224) = false := decide_eq_false (by omega)
                have e2 : decide ((224 : Int) ≤ (b : Int)) = true := decide_eq_true (by omega)
                have e3 : decide ((b : Int) < 240) = false := decide_eq_false (by omega)
                have e4 : decide ((240 : Int) ≤ (b : Int)) = true := decide_eq_true (by omega)
                have e5 : decide ((b : Int) < 245) = true := decide_eq_true (by omega)
                clear h128 hr hm hl
                go_wp2_with fail
                go_loopg [7, 8] 3 (fun g s7 s8 wq => ∃ k : Nat, k + g = 3 ∧ s8 = .int .i64 ((k : Int) + 1) ∧ s7 = .int .i64 (pv s pos m k) ∧ wq = wr ∧ Hid (∀ j, 1 ≤ j → j ≤ k → cnt s (pos + j) = true))
                case atStart => exact ⟨0, by omega, by go_num, rfl, rfl, Lib.hid (by omega)⟩
                case round =>
                  obtain ⟨k, hk, rfl, rfl, rfl, hC⟩ := hrel
                  have hpv := pv_lt s pos m hm32 k (by omega)
                  have hpv3 : pv s pos m k < 8388608 := by
                    have : (64 : Nat) ^ k ≤ 64 ^ 3 := Nat.pow_le_pow_right (by omega) (by omega)
                    omega
                  obtain ⟨r, hr⟩ : ∃ r, pv s pos m k = r := ⟨_, rfl⟩
                  rw [hr] at hpv3 ⊢
                  have HR := Lib.hid hr
                  clear hpv hr
                  by_cases hkn : k < 3
                  · have q5 : decide ((k : Int) + 1 ≤ 3) = true := decide_eq_true (by omega)
                    by_cases hc : cnt s (pos + (k + 1)) = true
                    · have hc' := hc
                      unfold cnt at hc'
                      simp at hc'
                      obtain ⟨hq1, hq2⟩ := hc'
                      obtain ⟨x, hx⟩ : ∃ x, pos + (k + 1) = x := ⟨_, rfl⟩
                      have he : (pos : Int) + ((k : Int) + 1) = (x : Int) := by omega
                      rw [hx] at hq1 hq2
                      have HX := Lib.hid hx
                      obtain ⟨y, hy⟩ : ∃ y, byt s x = y := ⟨_, rfl⟩
                      have hyx : s[x].toNat = y := (byt_at hq1).trans hy
                      have hy256 : y < 256 := by rw [← hy]; exact byt_lt s x
                      rw [hy] at hq2
                      have HY := Lib.hid hy
                      have a1 : bits .and .u8 (y : Int) 192 = 128 := by rw [u8_and192 y hy256]; omega
                      have a2 : bits .and .u8 (y : Int) 63 = ((y % 64 : Nat) : Int) := by rw [u8_and63 _ (by omega) (by omega)]; omega
                      obtain ⟨z, hz⟩ : ∃ z, y % 64 = z := ⟨_, rfl⟩
                      rw [hz] at a2
                      have hz64 : z < 64 := by omega
                      have q6 : decide ((s.size : Int) ≤ (x : Int)) = false := decide_eq_false (by omega)
                      obtain ⟨v, hv⟩ : ∃ v, r * 64 + z = v := ⟨_, rfl⟩
                      have hsum : (r : Int) * 64 + (z : Int) = (v : Int) := by omega
                      have HC : Hid (∀ j, 1 ≤ j → j ≤ k + 1 → cnt s (pos + j) = true) := Lib.hid (fun j h1 h2 => by
                        rcases Nat.lt_or_ge j (k + 1) with h | h
                        · exact hC.out j h1 (by omega)
                        · obtain rfl : j = k + 1 := by omega
                          exact hc)
                      have HP : Hid (pv s pos m (k + 1) = v) := Lib.hid (by
                        show pv s pos m k * 64 + byt s (pos + (k + 1)) % 64 = _
                        rw [HR.out, HX.out, HY.out, hz, hv])
                      have HE := Lib.hid (⟨hq1, hk⟩ : x < s.size ∧ k + gk = 3)
                      clear hc hC hx hy hz hq2 hk hv
                      go_wp2_with fail
                      go_roundg (gk - 1)
                      case measure => have := HE.out; omega
                      case rel => exact ⟨k + 1, by have := HE.out; omega, by go_num, by rw [HP.out], rfl, HC⟩
                    · have HF : Hid (validD s.data.toList = false) := Lib.hid (by rw [HU.out, if_neg (fun hh => hc (hh.1 (k + 1) (by omega) (by omega)))])
                      obtain ⟨x, hx⟩ : ∃ x, pos + (k + 1) = x := ⟨_, rfl⟩
                      have he : (pos : Int) + ((k : Int) + 1) = (x : Int) := by omega
                      rw [hx] at hc
                      by_cases hxs : x < s.size
                      · obtain ⟨y, hy⟩ : ∃ y, byt s x = y := ⟨_, rfl⟩
                        have hyx : s[x].toNat = y := (byt_at hxs).trans hy
                        have hy256 : y < 256 := by rw [← hy]; exact byt_lt s x
                        have hy2 : y / 64 ≠ 2 := by
                          intro e
                          apply hc
                          unfold cnt
                          rw [hy, e, decide_eq_true hxs]
                          rfl
                        have a1 := u8_and192 y hy256
                        obtain ⟨z, hz⟩ : ∃ z, y / 64 * 64 = z := ⟨_, rfl⟩
                        rw [hz] at a1
                        have q7 : ((z : Int) == 128) = false := by simp; omega
                        have q8 : ((z : Int) != 128) = true := by simp; omega
                        have q6 : decide ((s.size : Int) ≤ (x : Int)) = false := decide_eq_false (by omega)
                        clear hc hx hy hz hy2 hC hk HU
                        go_wp2_with fail
                        go_ret
                        exact ⟨by rw [HF.out]; rfl, rfl⟩
                      · have q6 : decide ((s.size : Int) ≤ (x : Int)) = true := decide_eq_true (by omega)
                        have q6n : decide (s.size ≤ x) = true := decide_eq_true (by omega)
                        clear hc hx hC hk HU hxs
                        go_wp2_with fail
                        go_ret
                        exact ⟨by rw [HF.out]; rfl, rfl⟩
                  · obtain rfl : k = 3 := by omega
                    by_cases hf : fits 65536 r = true
                    · have HF : Hid (validD s.data.toList = validD (s.data.toList.drop (pos + 3 + 1))) := Lib.hid (by
                        rw [HU.out, if_pos ⟨fun j h1 h2 => hC.out j h1 h2, by rw [HR.out]; exact hf⟩])
                      have hin : pos + 3 < s.size := by
                        have := hC.out 3 (by omega) (by omega)
                        unfold cnt at this
                        simp at this
                        omega
                      unfold fits at hf
                      simp at hf
                      have p1 : decide ((r : Int) < 65536) = false := decide_eq_false (by omega)
                      have p2 : decide ((1114111 : Int) < (r : Int)) = false := decide_eq_false (by omega)
                      have hs3 : r < 55296 ∨ 57344 ≤ r := by omega
                      clear hf hC hk HU
                      rcases hs3 with h3 | h3
                      · have p3 : decide ((55296 : Int) ≤ (r : Int)) = false := decide_eq_false (by omega)
                        go_wp2_with fail
                        go_roundg (s.size - (pos + 3 + 1))
                        case measure => omega
                        case rel => exact ⟨pos + 3 + 1, by go_num, by omega, by omega, rfl, HF⟩
                      · have p3 : decide ((55296 : Int) ≤ (r : Int)) = true := decide_eq_true (by omega)
                        have p4 : decide ((r : Int) < 57344) = false := decide_eq_false (by omega)
                        go_wp2_with fail
                        go_roundg (s.size - (pos + 3 + 1))
                        case measure => omega
                        case rel => exact ⟨pos + 3 + 1, by go_num, by omega, by omega, rfl, HF⟩
                    · have HF : Hid (validD s.data.toList = false) := Lib.hid (by rw [HU.out, if_neg (fun hh => hf (by have := hh.2; rwa [HR.out] at this))])
                      have hs3 : r < 65536 ∨ 1114111 < r ∨ (55296 ≤ r ∧ r < 57344) := by
                        unfold fits at hf
                        simp at hf
                        omega
                      clear hf hC hk HU
                      by_cases h1 : r < 65536
                      · have p1 : decide ((r : Int) < 65536) = true := decide_eq_true (by omega)
                        go_wp2_with fail
                        go_ret
                        exact ⟨by rw [HF.out]; rfl, rfl⟩
                      · have p1 : decide ((r : Int) < 65536) = false := decide_eq_false (by omega)
                        by_cases h2 : 1114111 < r
                        · have p2 : decide ((1114111 : Int) < (r : Int)) = true := decide_eq_true (by omega)
                          go_wp2_with fail
                          go_ret
                          exact ⟨by rw [HF.out]; rfl, rfl⟩
                        · have p2 : decide ((1114111 : Int) < (r : Int)) = false := decide_eq_false (by omega)
                          have p3 : decide ((55296 : Int) ≤ (r : Int)) = true := decide_eq_true (by omega)
                          have p4 : decide ((r : Int) < 57344) = true := decide_eq_true (by omega)
                          go_wp2_with fail
                          go_ret
                          exact ⟨by rw [HF.out]; rfl, rfl⟩
              · cases hl'
    · obtain rfl : pos = s.size := by omega
      have HF : Hid (validD s.data.toList = true) := Lib.hid (by rw [hI.out, drop_end (Nat.le_refl _)]; rfl)
      clear hI
      go_wp2_with fail
      go_ret
      exact ⟨by rw [HF.out]; rfl, rfl⟩
end Go.Proofs.YtkhjdcnlpablkaaDoor
