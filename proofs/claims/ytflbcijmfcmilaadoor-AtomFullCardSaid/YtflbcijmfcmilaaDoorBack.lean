/- Plain: what is written is read again; it has no byte below 32, none 127. No program in sight. -/
import Derived.Test.YtflbcijmfcmilaaDoorSpec
namespace Go.Proofs.YtflbcijmfcmilaaDoor
open Go.Lib (decodeL encodeRune encodeRuneZ validD)

theorem enc_small (v : Nat) (h : v ≤ 127) : encodeRune (v : Int) = [v.toUInt8] := by
  simp [encodeRune, Lib.encodeRuneZ_one (r := (v : Int)) (by omega) (by omega)]

theorem enc_len (v : Nat) : 1 ≤ (encodeRune (v : Int)).length ∧ (encodeRune (v : Int)).length ≤ 4 := by
  simpa [encodeRune] using Lib.encodeRuneZ_length (v : Int)

/-- From 128 on all bytes are from 128 on. -/
theorem enc_high (v : Nat) (h : 128 ≤ v) : ∀ x ∈ encodeRune (v : Int), 128 ≤ x.toNat := by
  intro x hx
  simp only [encodeRune, List.mem_map] at hx
  obtain ⟨z, hz, rfl⟩ := hx
  have hb := Lib.encodeRuneZ_byte (v : Int) z hz
  rw [toNat_byte z hb.1 hb.2]
  unfold Lib.encodeRuneZ at hz
  split at hz
  · omega
  · split at hz
    · simp at hz; omega
    · split at hz
      · simp at hz; omega
      · split at hz
        · simp at hz; omega
        · simp at hz; omega

theorem hexD_nat (n : Nat) (h : n < 16) : (hexD n).toNat = if n < 10 then 48 + n else 87 + n := by
  unfold hexD
  split
  · simp; omega
  · simp; omega

theorem dig_hexD (n : Nat) (h : n < 16) : dig (hexD n) 16 = some n := by
  have hn := hexD_nat n h
  unfold dig
  by_cases hc : n < 10
  · rw [if_pos hc] at hn
    have e : (if 48 ≤ (hexD n).toNat ∧ (hexD n).toNat ≤ 57 then (hexD n).toNat - 48 else if 97 ≤ (hexD n).toNat ∧ (hexD n).toNat ≤ 102 then (hexD n).toNat - 87 else if 65 ≤ (hexD n).toNat ∧ (hexD n).toNat ≤ 70 then (hexD n).toNat - 55 else 99) = n := by
      rw [if_pos (by omega)]; omega
    simp only [e]
    rw [if_pos h]
  · rw [if_neg hc] at hn
    have e : (if 48 ≤ (hexD n).toNat ∧ (hexD n).toNat ≤ 57 then (hexD n).toNat - 48 else if 97 ≤ (hexD n).toNat ∧ (hexD n).toNat ≤ 102 then (hexD n).toNat - 87 else if 65 ≤ (hexD n).toNat ∧ (hexD n).toNat ≤ 70 then (hexD n).toNat - 55 else 99) = n := by
      rw [if_neg (by omega), if_pos (by omega)]; omega
    simp only [e]
    rw [if_pos h]

theorem dig_close : dig 125 16 = none := by decide

theorem readNum_hexL (r : Nat) (h : r < 256) (rest : List UInt8) (k : Nat) (hk : 3 ≤ k) : readNum 16 k (hexL r ++ 125 :: rest) 0 = (r, (hexL r).length) := by
  obtain ⟨k, rfl⟩ : ∃ j, k = j + 3 := ⟨k - 3, by omega⟩
  unfold hexL
  split
  · simp [readNum, dig_hexD r (by omega), dig_close]
  · simp [readNum, dig_hexD (r / 16) (by omega), dig_hexD (r % 16) (by omega), dig_close]
    omega

theorem byte_eq (n m : Nat) (hn : n < 256) (hm : m < 256) : (n.toUInt8 = m.toUInt8) ↔ n = m := by
  constructor
  · intro h
    have := congrArg UInt8.toNat h
    simp at this
    omega
  · rintro rfl; rfl

theorem escF_cases (v : Nat) (h : escF v ≠ 0) : v = 8 ∨ v = 9 ∨ v = 10 ∨ v = 11 ∨ v = 12 ∨ v = 13 ∨ v = 27 ∨ v = 127 := by
  unfold escF at h
  repeat' (split at h; · omega)
  exact absurd rfl h

theorem escapeL_plain (v : Nat) (hv : v = 39 ∨ v = 92) (rest : List UInt8) : escapeL (v.toUInt8 :: rest) = some (v, 1) := by
  have hd := Lib.decodeL_ascii v.toUInt8 rest (by rcases hv with rfl | rfl <;> decide)
  unfold escapeL
  rcases hv with rfl | rfl
  · simp only [hd]
    rfl
  · simp only [hd]
    rfl

theorem escapeL_letter (v : Nat) (h : escF v ≠ 0) (rest : List UInt8) : escapeL ((escF v).toUInt8 :: rest) = some (v, 1) := by
  rcases escF_cases v h with rfl | rfl | rfl | rfl | rfl | rfl | rfl | rfl <;> rfl

theorem escapeL_hex (v : Nat) (h : v < 256) (rest : List UInt8) : escapeL (120 :: 123 :: (hexL v ++ 125 :: rest)) = some (v, (hexL v).length + 3) := by
  have hl : 1 ≤ (hexL v).length ∧ (hexL v).length ≤ 2 := by unfold hexL; split <;> simp
  have hr := readNum_hexL v h rest ((hexL v ++ 125 :: rest).length + 3) (by omega)
  rw [readNum_most _ _ _ _ (by omega)] at hr
  unfold escapeL
  simp only [hr]
  rw [if_pos trivial]
  have h1 : ¬ (hexL v).length = 0 := by omega
  rw [if_neg h1, List.getElem?_append_right (Nat.le_refl _)]
  simp

theorem escR_len (v : Nat) : 1 ≤ (escR v).length := by
  unfold escR
  split
  · simp
  · split
    · simp
    · split
      · simp
      · exact (enc_len v).1

/-- ONE RUNE that is written is read. -/
theorem escR_read (v : Nat) (hv : okRune v = true) (n : Nat) (rest out : List UInt8) (bad : Bool) (k : Nat) :
    quotedN (n + 1) (escR v ++ rest) out bad k = quotedN n rest (out ++ encodeRune (v : Int)) bad (k + (escR v).length) := by
  unfold escR
  split
  · rename_i h
    simp only [List.cons_append, List.nil_append, quotedN]
    rw [if_neg (by decide), if_pos (by decide), escapeL_plain v h rest]
    simp only [hv, if_true, List.drop_succ_cons, List.drop_zero, List.length_cons, List.length_nil]
  · split
    · rename_i h
      simp only [List.cons_append, List.nil_append, quotedN]
      rw [if_neg (by decide), if_pos (by decide), escapeL_letter v h rest]
      simp only [hv, if_true, List.drop_succ_cons, List.drop_zero, List.length_cons, List.length_nil]
    · split
      · rename_i h
        have e : [92, 120, 123] ++ hexL v ++ [125] ++ rest = 92 :: (120 :: 123 :: (hexL v ++ 125 :: rest)) := by simp
        rw [e]
        simp only [quotedN]
        rw [if_neg (by decide), if_pos (by decide), escapeL_hex v (by omega) rest]
        simp only [hv, if_true, List.drop_succ_cons]
        rw [show hexL v ++ 125 :: rest = (hexL v ++ [125]) ++ rest by simp, List.drop_left' (by simp)]
        congr 1
        simp
        omega
      · rename_i h1 h2 h3
        have hd := decode_encode v hv rest
        have hl := enc_len v
        have hb : badD (v, (encodeRune (v : Int)).length) = false := by
          simp only [badD, decide_eq_false_iff_not]
          rintro ⟨h, h'⟩
          subst h
          exact absurd h' (by decide)
        have hc : ∀ x ∈ encodeRune (v : Int), x ≠ 39 ∧ x ≠ 92 := by
          intro x hx
          by_cases hs : v ≤ 127
          · rw [enc_small v hs] at hx
            simp at hx
            subst hx
            constructor
            · intro h; exact h1 (.inl ((byte_eq v 39 (by omega) (by omega)).1 h))
            · intro h; exact h1 (.inr ((byte_eq v 92 (by omega) (by omega)).1 h))
          · have := enc_high v (by omega) x hx
            constructor
            · rintro rfl; exact absurd this (by decide)
            · rintro rfl; exact absurd this (by decide)
        cases he : encodeRune (v : Int) with
        | nil => rw [he] at hl; simp at hl
        | cons c t =>
          rw [he] at hd hc hb
          have hcc := hc c (by simp)
          simp only [List.cons_append] at hd ⊢
          simp only [quotedN]
          rw [if_neg hcc.1, if_neg hcc.2, hd, hb]
          simp only [Bool.false_eq_true, if_false, he]
          rw [← List.cons_append, List.drop_left' rfl]

theorem escRs_read : ∀ (rs : List (Nat × Nat)), (∀ p ∈ rs, okRune p.1 = true) → ∀ (n : Nat) (rest out : List UInt8) (bad : Bool) (k : Nat), rs.length < n →
    quotedN n (rs.flatMap (fun p => escR p.1) ++ 39 :: rest) out bad k = some (out ++ rs.flatMap (fun p => encodeRune (p.1 : Int)), bad, k + (rs.flatMap (fun p => escR p.1)).length + 1)
  | [], _, n, rest, out, bad, k, hn => by
    obtain ⟨n, rfl⟩ : ∃ m, n = m + 1 := ⟨n - 1, by simp at hn; omega⟩
    simp [quotedN]
  | p :: rs, h, n, rest, out, bad, k, hn => by
    obtain ⟨n, rfl⟩ : ∃ m, n = m + 1 := ⟨n - 1, by simp at hn; omega⟩
    rw [List.flatMap_cons, List.append_assoc, escR_read p.1 (h p (by simp)), escRs_read rs (fun q hq => h q (by simp [hq])) n rest _ bad _ (by simpa using hn)]
    simp only [List.flatMap_cons, List.length_append, List.append_assoc]
    congr 3
    omega

theorem runes_ok : ∀ l : List UInt8, validD l = true → ∀ p ∈ runes l, okRune p.1 = true := by
  refine byRunes (by simp [runes_nil]) fun l hne ih hv p hp => ?_
  obtain ⟨h1, h2⟩ := validD_tail l hne hv
  rw [runes_step l hne] at hp
  rcases List.mem_cons.1 hp with rfl | hp
  · exact decode_ok l h1
  · exact ih h2 p hp

theorem enc_runes : ∀ l : List UInt8, validD l = true → (runes l).flatMap (fun p => encodeRune (p.1 : Int)) = l := by
  refine byRunes (by simp [runes_nil]) fun l hne ih hv => ?_
  obtain ⟨h1, h2⟩ := validD_tail l hne hv
  rw [runes_step l hne, List.flatMap_cons, ih h2, encode_decode' l hne h1, List.take_append_drop]

theorem escRs_len : ∀ rs : List (Nat × Nat), rs.length ≤ (rs.flatMap (fun p => escR p.1)).length
  | [] => by simp
  | p :: rs => by
    have h1 := escR_len p.1
    have h2 := escRs_len rs
    rw [List.flatMap_cons, List.length_append, List.length_cons]
    omega

/-- ████ WHAT IS WRITTEN IN QUOTES IS READ AGAIN, whatever stands behind it. -/
theorem quote_read (l : List UInt8) (hv : validD l = true) (rest : List UInt8) (n : Nat) (hn : (quoteL l).length ≤ n) :
    quotedN n ((quoteL l ++ rest).drop 1) [] false 1 = some (l, false, (quoteL l).length) := by
  have e : (quoteL l ++ rest).drop 1 = (runes l).flatMap (fun p => escR p.1) ++ 39 :: rest := by simp [quoteL]
  have hl : (quoteL l).length = ((runes l).flatMap (fun p => escR p.1)).length + 2 := by simp [quoteL]
  have := escRs_len (runes l)
  rw [e, escRs_read (runes l) (runes_ok l hv) n rest [] false 1 (by omega), enc_runes l hv, hl]
  simp
  omega

/-- No byte below 32, none 127. -/
theorem escR_clean (v : Nat) : ∀ x ∈ escR v, 32 ≤ x.toNat ∧ x.toNat ≠ 127 := by
  intro x hx
  unfold escR at hx
  split at hx
  · rename_i h
    rcases h with rfl | rfl
    · simp at hx; rcases hx with rfl | rfl <;> decide
    · simp at hx; subst hx; decide
  · split at hx
    · rename_i h
      rcases escF_cases v h with rfl | rfl | rfl | rfl | rfl | rfl | rfl | rfl <;> (simp [escF] at hx; rcases hx with rfl | rfl <;> decide)
    · split at hx
      · rename_i h
        simp at hx
        rcases hx with rfl | rfl | rfl | hx | rfl
        · decide
        · decide
        · decide
        · unfold hexL at hx
          split at hx
          · simp at hx
            subst hx
            rw [hexD_nat _ (by omega)]
            split <;> omega
          · simp at hx
            rcases hx with rfl | rfl
            · rw [hexD_nat _ (by omega)]
              split <;> omega
            · rw [hexD_nat _ (by omega)]
              split <;> omega
        · decide
      · rename_i h1 h2 h3
        by_cases hs : v ≤ 127
        · rw [enc_small v hs] at hx
          simp at hx
          subst hx
          have : v ≠ 127 := by rintro rfl; exact h2 (by decide)
          have e : (UInt8.ofNat v).toNat = v := by simp; omega
          rw [e]
          omega
        · have := enc_high v (by omega) x hx
          omega

theorem quoteL_clean (l : List UInt8) : ∀ x ∈ quoteL l, 32 ≤ x.toNat ∧ x.toNat ≠ 127 := by
  intro x hx
  simp only [quoteL, List.mem_append, List.mem_singleton, List.mem_flatMap] at hx
  rcases hx with (rfl | ⟨p, _, hp⟩) | rfl
  · decide
  · exact escR_clean p.1 x hp
  · decide

theorem quoteL_head (l : List UInt8) : (quoteL l).head? = some 39 := by simp [quoteL]
end Go.Proofs.YtflbcijmfcmilaaDoor
