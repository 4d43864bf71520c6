/- Plain: texts rune by rune; how an atom is written; how what stands in quotes is read. No program in sight. -/
import Derived.Lib.ValidLaws
import Derived.Lib.RuneBytes
namespace Go.Proofs.YtkhjdcnlpablkaaDoor
open Go.Lib (decodeL encodeRune encodeRuneZ validD)

/-- A number that is a rune. -/
def okRune (v : Nat) : Bool := decide (v < 55296 ∨ (57344 ≤ v ∧ v ≤ 1114111))

theorem getD_app (x t : List UInt8) (i : Nat) (h : i < x.length) : (x ++ t).getD i 0 = x.getD i 0 := by
  simp [List.getD_eq_getElem?_getD, List.getElem?_append_left h]

theorem toNat_byte (z : Int) (_ : 0 ≤ z) (h1 : z < 256) : (z.toNat.toUInt8).toNat = z.toNat := by
  simp
  omega

set_option maxHeartbeats 1000000 in
/-- What a rune is written as is decoded as that rune. -/
theorem decode_encode (v : Nat) (hv : okRune v = true) (t : List UInt8) : decodeL (encodeRune (v : Int) ++ t) = (v, (encodeRune (v : Int)).length) := by
  have hv' : v < 55296 ∨ (57344 ≤ v ∧ v ≤ 1114111) := by simpa [okRune] using hv
  rw [Lib.decodeL_N]
  by_cases h1 : v ≤ 127
  · have e : encodeRune (v : Int) = [v.toUInt8] := by
      simp [encodeRune, Lib.encodeRuneZ_one (r := (v : Int)) (by omega) (by omega)]
    rw [e]
    have e0 : (([v.toUInt8] ++ t).getD 0 0).toNat = v := by simp; omega
    rw [e0]
    unfold Lib.decodeN
    rw [if_pos (by omega)]
    rfl
  · by_cases h2 : v ≤ 2047
    · have e : encodeRune (v : Int) = [(192 + (v : Int) / 64).toNat.toUInt8, (128 + (v : Int) % 64).toNat.toUInt8] := by
        simp [encodeRune, Lib.encodeRuneZ_two (r := (v : Int)) (by omega) (by omega)]
      rw [e]
      have e0 : (([(192 + (v : Int) / 64).toNat.toUInt8, (128 + (v : Int) % 64).toNat.toUInt8] ++ t).getD 0 0).toNat = 192 + v / 64 := by
        rw [getD_app _ _ _ (by simp)]
        exact (toNat_byte _ (by omega) (by omega)).trans (by omega)
      have e1 : (([(192 + (v : Int) / 64).toNat.toUInt8, (128 + (v : Int) % 64).toNat.toUInt8] ++ t).getD 1 0).toNat = 128 + v % 64 := by
        rw [getD_app _ _ _ (by simp)]
        exact (toNat_byte _ (by omega) (by omega)).trans (by omega)
      rw [e0, e1]
      have hl : 1 < ([(192 + (v : Int) / 64).toNat.toUInt8, (128 + (v : Int) % 64).toNat.toUInt8] ++ t).length := by simp
      unfold Lib.decodeN
      rw [if_neg (by omega), if_pos ⟨by omega, hl, by omega⟩, if_pos (by omega)]
      exact Prod.ext (show _ = v by omega) rfl
    · by_cases h3 : v ≤ 65535
      · have e : encodeRune (v : Int) = [(224 + (v : Int) / 4096).toNat.toUInt8, (128 + (v : Int) / 64 % 64).toNat.toUInt8, (128 + (v : Int) % 64).toNat.toUInt8] := by
          simp [encodeRune, Lib.encodeRuneZ_three (r := (v : Int)) (by omega)]
        rw [e]
        have e0 : (([(224 + (v : Int) / 4096).toNat.toUInt8, (128 + (v : Int) / 64 % 64).toNat.toUInt8, (128 + (v : Int) % 64).toNat.toUInt8] ++ t).getD 0 0).toNat = 224 + v / 4096 := by
          rw [getD_app _ _ _ (by simp)]
          exact (toNat_byte _ (by omega) (by omega)).trans (by omega)
        have e1 : (([(224 + (v : Int) / 4096).toNat.toUInt8, (128 + (v : Int) / 64 % 64).toNat.toUInt8, (128 + (v : Int) % 64).toNat.toUInt8] ++ t).getD 1 0).toNat = 128 + v / 64 % 64 := by
          rw [getD_app _ _ _ (by simp)]
          exact (toNat_byte _ (by omega) (by omega)).trans (by omega)
        have e2 : (([(224 + (v : Int) / 4096).toNat.toUInt8, (128 + (v : Int) / 64 % 64).toNat.toUInt8, (128 + (v : Int) % 64).toNat.toUInt8] ++ t).getD 2 0).toNat = 128 + v % 64 := by
          rw [getD_app _ _ _ (by simp)]
          exact (toNat_byte _ (by omega) (by omega)).trans (by omega)
        rw [e0, e1, e2]
        have hl : 2 < ([(224 + (v : Int) / 4096).toNat.toUInt8, (128 + (v : Int) / 64 % 64).toNat.toUInt8, (128 + (v : Int) % 64).toNat.toUInt8] ++ t).length := by simp
        unfold Lib.decodeN
        rw [if_neg (by omega), if_neg (by omega), if_pos ⟨by omega, ⟨by omega, by omega⟩, hl, by omega⟩, if_pos (by omega)]
        exact Prod.ext (show _ = v by omega) rfl
      · have e : encodeRune (v : Int) = [(240 + (v : Int) / 262144).toNat.toUInt8, (128 + (v : Int) / 4096 % 64).toNat.toUInt8, (128 + (v : Int) / 64 % 64).toNat.toUInt8, (128 + (v : Int) % 64).toNat.toUInt8] := by
          simp [encodeRune, Lib.encodeRuneZ_four (r := (v : Int)) (by omega) (by omega)]
        rw [e]
        have e0 : (([(240 + (v : Int) / 262144).toNat.toUInt8, (128 + (v : Int) / 4096 % 64).toNat.toUInt8, (128 + (v : Int) / 64 % 64).toNat.toUInt8, (128 + (v : Int) % 64).toNat.toUInt8] ++ t).getD 0 0).toNat = 240 + v / 262144 := by
          rw [getD_app _ _ _ (by simp)]
          exact (toNat_byte _ (by omega) (by omega)).trans (by omega)
        have e1 : (([(240 + (v : Int) / 262144).toNat.toUInt8, (128 + (v : Int) / 4096 % 64).toNat.toUInt8, (128 + (v : Int) / 64 % 64).toNat.toUInt8, (128 + (v : Int) % 64).toNat.toUInt8] ++ t).getD 1 0).toNat = 128 + v / 4096 % 64 := by
          rw [getD_app _ _ _ (by simp)]
          exact (toNat_byte _ (by omega) (by omega)).trans (by omega)
        have e2 : (([(240 + (v : Int) / 262144).toNat.toUInt8, (128 + (v : Int) / 4096 % 64).toNat.toUInt8, (128 + (v : Int) / 64 % 64).toNat.toUInt8, (128 + (v : Int) % 64).toNat.toUInt8] ++ t).getD 2 0).toNat = 128 + v / 64 % 64 := by
          rw [getD_app _ _ _ (by simp)]
          exact (toNat_byte _ (by omega) (by omega)).trans (by omega)
        have e3 : (([(240 + (v : Int) / 262144).toNat.toUInt8, (128 + (v : Int) / 4096 % 64).toNat.toUInt8, (128 + (v : Int) / 64 % 64).toNat.toUInt8, (128 + (v : Int) % 64).toNat.toUInt8] ++ t).getD 3 0).toNat = 128 + v % 64 := by
          rw [getD_app _ _ _ (by simp)]
          exact (toNat_byte _ (by omega) (by omega)).trans (by omega)
        rw [e0, e1, e2, e3]
        have hl : 3 < ([(240 + (v : Int) / 262144).toNat.toUInt8, (128 + (v : Int) / 4096 % 64).toNat.toUInt8, (128 + (v : Int) / 64 % 64).toNat.toUInt8, (128 + (v : Int) % 64).toNat.toUInt8] ++ t).length := by simp
        unfold Lib.decodeN
        rw [if_neg (by omega), if_neg (by omega), if_neg (by omega), if_pos ⟨by omega, ⟨by omega, by omega⟩, ⟨by omega, by omega⟩, hl, by omega⟩, if_pos (by omega)]
        exact Prod.ext (show _ = v by omega) rfl

/-- A byte that is no right UTF-8. -/
def badD (p : Nat × Nat) : Bool := decide (p.1 = 65533 ∧ p.2 = 1)

theorem decode_ok (l : List UInt8) (h : badD (decodeL l) = false) : okRune (decodeL l).1 = true := by
  have h' : ¬ ((decodeL l).1 = 65533 ∧ (decodeL l).2 = 1) := by simpa [badD] using h
  rw [Lib.decodeL_N] at h' ⊢
  have k0 := (l.getD 0 0).toNat_lt
  have k1 := (l.getD 1 0).toNat_lt
  rcases Lib.decodeN_shape l.length (l.getD 0 0).toNat (l.getD 1 0).toNat (l.getD 2 0).toNat (l.getD 3 0).toNat with ⟨c, e⟩ | ⟨c1, c2, c3, cv, e⟩ | ⟨c1, c2, c3, c4, cv, cs, e⟩ | ⟨c1, c2, c3, c4, c5, cv, cw, e⟩ | e
  all_goals (rw [e] at h' ⊢; simp only [okRune, decide_eq_true_eq])
  · omega
  · omega
  · omega
  · omega
  · exact absurd ⟨rfl, rfl⟩ h'

theorem encode_decode' (l : List UInt8) (hne : l ≠ []) (h : badD (decodeL l) = false) : encodeRune ((decodeL l).1 : Int) = l.take (decodeL l).2 :=
  Lib.encode_decode l hne (by simpa [badD] using h)

/-! ### Runes -/
def runesN : Nat → List UInt8 → List (Nat × Nat)
  | 0, _ => []
  | n + 1, l => if l = [] then [] else decodeL l :: runesN n (l.drop (decodeL l).2)

theorem runesN_nil : ∀ n, runesN n [] = []
  | 0 => rfl
  | _ + 1 => by simp [runesN]

theorem runesN_fuel : ∀ (n m : Nat) (l : List UInt8), l.length ≤ n → l.length ≤ m → runesN n l = runesN m l
  | 0, m, l, hn, _ => by
    have : l = [] := List.eq_nil_of_length_eq_zero (by omega)
    subst this
    rw [runesN_nil, runesN_nil]
  | n + 1, 0, l, _, hm => by
    have : l = [] := List.eq_nil_of_length_eq_zero (by omega)
    subst this
    rw [runesN_nil, runesN_nil]
  | n + 1, m + 1, l, hn, hm => by
    unfold runesN
    by_cases hne : l = []
    · simp [hne]
    · have hw := Lib.decodeL_width l
      have hl : 0 < l.length := List.length_pos_iff.2 hne
      rw [if_neg hne, if_neg hne, runesN_fuel n m (l.drop (decodeL l).2) (by rw [List.length_drop]; omega) (by rw [List.length_drop]; omega)]

/-- The runes of a text with their widths. -/
def runes (l : List UInt8) : List (Nat × Nat) := runesN l.length l
theorem runes_nil : runes [] = [] := rfl
theorem runes_step (l : List UInt8) (hne : l ≠ []) : runes l = decodeL l :: runes (l.drop (decodeL l).2) := by
  have hl : 0 < l.length := List.length_pos_iff.2 hne
  have hw := Lib.decodeL_width l
  obtain ⟨n, hn⟩ : ∃ n, l.length = n + 1 := ⟨l.length - 1, by omega⟩
  unfold runes
  rw [hn]
  show (if l = [] then [] else _) = _
  rw [if_neg hne, runesN_fuel n (l.drop (decodeL l).2).length _ (by rw [List.length_drop]; omega) (Nat.le_refl _)]

theorem drop_len_lt (l : List UInt8) (hne : l ≠ []) : (l.drop (decodeL l).2).length < l.length := by
  have hl : 0 < l.length := List.length_pos_iff.2 hne
  have hw := Lib.decodeL_width l
  rw [List.length_drop]
  omega

/-- By runes. -/
theorem byRunes {p : List UInt8 → Prop} (h0 : p []) (h1 : ∀ l, l ≠ [] → p (l.drop (decodeL l).2) → p l) (l : List UInt8) : p l := by
  have : ∀ (n : Nat) (l : List UInt8), l.length ≤ n → p l := by
    intro n
    induction n with
    | zero => intro l hl; rw [List.eq_nil_of_length_eq_zero (by omega : l.length = 0)]; exact h0
    | succ n ih =>
      intro l hl
      by_cases hne : l = []
      · rw [hne]; exact h0
      · exact h1 l hne (ih _ (by have := drop_len_lt l hne; omega))
  exact this l.length l (Nat.le_refl _)

theorem runes_len_le : ∀ l : List UInt8, (runes l).length ≤ l.length := by
  refine byRunes (by simp [runes_nil]) fun l hne ih => ?_
  rw [runes_step l hne, List.length_cons]
  have := drop_len_lt l hne
  omega

theorem validD_runes : ∀ l : List UInt8, validD l = !(runes l).any badD := by
  refine byRunes (by simp [runes_nil, Lib.validD_nil]) fun l hne ih => ?_
  rw [Lib.validD_step l hne, runes_step l hne, List.any_cons, ih]
  cases h : badD (decodeL l) with
  | true => rw [if_pos (by simpa [badD] using h)]; rfl
  | false => rw [if_neg (by simpa [badD] using h)]; rfl

theorem validD_tail (l : List UInt8) (hne : l ≠ []) (h : validD l = true) : badD (decodeL l) = false ∧ validD (l.drop (decodeL l).2) = true := by
  rw [Lib.validD_step l hne] at h
  split at h
  · cases h
  · rename_i hn
    exact ⟨by simpa [badD] using hn, h⟩

theorem validD_encode (v : Nat) (hv : okRune v = true) (t : List UInt8) : validD (encodeRune (v : Int) ++ t) = validD t := by
  have hd := decode_encode v hv t
  have hl := Lib.encodeRuneZ_length (v : Int)
  have hl' : 1 ≤ (encodeRune (v : Int)).length := by simpa [encodeRune] using hl.1
  rw [Lib.validD_step _ (by intro h; simp at h; rw [h.1] at hl'; simp at hl'), hd]
  rw [if_neg]
  · simp
  · rintro ⟨h1, h2⟩
    simp only at h1 h2
    subst h1
    exact absurd h2 (by decide)

theorem validD_append : ∀ (a b : List UInt8), validD a = true → validD (a ++ b) = validD b := by
  intro a
  refine byRunes (p := fun a => ∀ b, validD a = true → validD (a ++ b) = validD b) (by simp) (fun l hne ih b hv => ?_) a
  obtain ⟨h1, h2⟩ := validD_tail l hne hv
  have he := encode_decode' l hne h1
  have : l ++ b = encodeRune ((decodeL l).1 : Int) ++ (l.drop (decodeL l).2 ++ b) := by
    rw [he, ← List.append_assoc, List.take_append_drop]
  rw [this, validD_encode _ (decode_ok l h1)]
  exact ih b h2

theorem validD_enc1 (v : Nat) (hv : okRune v = true) : validD (encodeRune (v : Int)) = true := by
  have := validD_encode v hv []
  rwa [List.append_nil] at this
end Go.Proofs.YtkhjdcnlpablkaaDoor
