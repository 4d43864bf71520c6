/- Plain: texts rune by rune; how an atom is written; how what stands in quotes is read. No program in sight. -/
import Derived.Lib.ValidLaws
import Derived.Lib.RuneBytes
namespace Go.Proofs.YtflbcijmfcmilaaDoor
open Go.Lib (decodeL encodeRune encodeRuneZ validD)

/-- A number that is a rune. -/
def okRune (v : Nat) : Bool := decide (v < 55296 ∨ (57344 ≤ v ∧ v ≤ 1114111))

theorem getD_app (x t : List UInt8) (i : Nat) (h : i < x.length) : (x ++ t).getD i 0 = x.getD i 0 := by
  simp [List.getD_eq_getElem?_getD, List.getElem?_append_left h]

theorem toNat_byte (z : Int) (_ : 0 ≤ z) (h1 : z < 256) : (z.toNat.toUInt8).toNat = z.toNat := by
  simp
  omega

set_option maxHeartbeats 1000000 in
/-- What a rune is written as is decoded as that rune. -/
theorem decode_encode (v : Nat) (hv : okRune v = true) (t : List UInt8) : decodeL (encodeRune (v : Int) ++ t) = (v, (encodeRune (v : Int)).length) := by
  have hv' : v < 55296 ∨ (57344 ≤ v ∧ v ≤ 1114111) := by simpa [okRune] using hv
  rw [Lib.decodeL_N]
  by_cases h1 : v ≤ 127
  · have e : encodeRune (v : Int) = [v.toUInt8] := by
      simp [encodeRune, Lib.encodeRuneZ_one (r := (v : Int)) (by omega) (by omega)]
    rw [e]
    have e0 : (([v.toUInt8] ++ t).getD 0 0).toNat = v := by simp; omega
    rw [e0]
    unfold Lib.decodeN
    rw [if_pos (by omega)]
    rfl
  · by_cases h2 : v ≤ 2047
    · have e : encodeRune (v : Int) = [(192 + (v : Int) / 64).toNat.toUInt8, (128 + (v : Int) % 64).toNat.toUInt8] := by
        simp [encodeRune, Lib.encodeRuneZ_two (r := (v : Int)) (by omega) (by omega)]
      rw [e]
      have e0 : (([(192 + (v : Int) / 64).toNat.toUInt8, (128 + (v : Int) % 64).toNat.toUInt8] ++ t).getD 0 0).toNat = 192 + v / 64 := by
        rw [getD_app _ _ _ (by simp)]
        exact (toNat_byte _ (by omega) (by omega)).trans (by omega)
      have e1 : (([(192 + (v : Int) / 64).toNat.toUInt8, (128 + (v : Int) % 64).toNat.toUInt8] ++ t).getD 1 0).toNat = 128 + v % 64 := by
        rw [getD_app _ _ _ (by simp)]
        exact (toNat_byte _ (by omega) (by omega)).trans (by omega)
      rw [e0, e1]
      have hl : 1 < ([(192 + (v : Int) / 64).toNat.toUInt8, (128 + (v : Int) % 64).toNat.toUInt8] ++ t).length := by simp
      unfold Lib.decodeN
      rw [if_neg (by omega), if_pos ⟨by omega, hl, by omega⟩, if_pos (by omega)]
      exact Prod.ext (show _ = v by omega) rfl
    · by_cases h3 : v ≤ 65535
      · have e : encodeRune (v : Int) = [(224 + (v : Int) / 4096).toNat.toUInt8, (128 + (v : Int) / 64 % 64).toNat.toUInt8, (128 + (v : Int) % 64).toNat.toUInt8] := by
          simp [encodeRune, Lib.encodeRuneZ_three (r := (v : Int)) (by omega)]
        rw [e]
        have e0 : (([(224 + (v : Int) / 4096).toNat.toUInt8, (128 + (v : Int) / 64 % 64).toNat.toUInt8, (128 + (v : Int) % 64).toNat.toUInt8] ++ t).getD 0 0).toNat = 224 + v / 4096 := by
          rw [getD_app _ _ _ (by simp)]
          exact (toNat_byte _ (by omega) (by omega)).trans (by omega)
        have e1 : (([(224 + (v : Int) / 4096).toNat.toUInt8, (128 + (v : Int) / 64 % 64).toNat.toUInt8, (128 + (v : Int) % 64).toNat.toUInt8] ++ t).getD 1 0).toNat = 128 + v / 64 % 64 := by
          rw [getD_app _ _ _ (by simp)]
          exact (toNat_byte _ (by omega) (by omega)).trans (by omega)
        have e2 : (([(224 + (v : Int) / 4096).toNat.toUInt8, (128 + (v : Int) / 64 % 64).toNat.toUInt8, (128 + (v : Int) % 64).toNat.toUInt8] ++ t).getD 2 0).toNat = 128 + v % 64 := by
          rw [getD_app _ _ _ (by simp)]
          exact (toNat_byte _ (by omega) (by omega)).trans (by omega)
        rw [e0, e1, e2]
        have hl : 2 < ([(224 + (v : Int) / 4096).toNat.toUInt8, (128 + (v : Int) / 64 % 64).toNat.toUInt8, (128 + (v : Int) % 64).toNat.toUInt8] ++ t).length := by simp
        unfold Lib.decodeN
        rw [if_neg (by omega), if_neg (by omega), if_pos ⟨by omega, ⟨by omega, by omega⟩, hl, by omega⟩, if_pos (by omega)]
        exact Prod.ext (show _ = v by omega) rfl
      · have e : encodeRune (v : Int) = [(240 + (v : Int) / 262144).toNat.toUInt8, (128 + (v : Int) / 4096 % 64).toNat.toUInt8, (128 + (v : Int) / 64 % 64).toNat.toUInt8, (128 + (v : Int) % 64).toNat.toUInt8] := by
          simp [encodeRune, Lib.encodeRuneZ_four (r := (v : Int)) (by omega) (by omega)]
        rw [e]
        have e0 : (([(240 + (v : Int) / 262144).toNat.toUInt8, (128 + (v : Int) / 4096 % 64).toNat.toUInt8, (128 + (v : Int) / 64 % 64).toNat.toUInt8, (128 + (v : Int) % 64).toNat.toUInt8] ++ t).getD 0 0).toNat = 240 + v / 262144 := by
          rw [getD_app _ _ _ (by simp)]
          exact (toNat_byte _ (by omega) (by omega)).trans (by omega)
        have e1 : (([(240 + (v : Int) / 262144).toNat.toUInt8, (128 + (v : Int) / 4096 % 64).toNat.toUInt8, (128 + (v : Int) / 64 % 64).toNat.toUInt8, (128 + (v : Int) % 64).toNat.toUInt8] ++ t).getD 1 0).toNat = 128 + v / 4096 % 64 := by
          rw [getD_app _ _ _ (by simp)]
          exact (toNat_byte _ (by omega) (by omega)).trans (by omega)
        have e2 : (([(240 + (v : Int) / 262144).toNat.toUInt8, (128 + (v : Int) / 4096 % 64).toNat.toUInt8, (128 + (v : Int) / 64 % 64).toNat.toUInt8, (128 + (v : Int) % 64).toNat.toUInt8] ++ t).getD 2 0).toNat = 128 + v / 64 % 64 := by
          rw [getD_app _ _ _ (by simp)]
          exact (toNat_byte _ (by omega) (by omega)).trans (by omega)
        have e3 : (([(240 + (v : Int) / 262144).toNat.toUInt8, (128 + (v : Int) / 4096 % 64).toNat.toUInt8, (128 + (v : Int) / 64 % 64).toNat.toUInt8, (128 + (v : Int) % 64).toNat.toUInt8] ++ t).getD 3 0).toNat = 128 + v % 64 := by
          rw [getD_app _ _ _ (by simp)]
          exact (toNat_byte _ (by omega) (by omega)).trans (by omega)
        rw [e0, e1, e2, e3]
        have hl : 3 < ([(240 + (v : Int) / 262144).toNat.toUInt8, (128 + (v : Int) / 4096 % 64).toNat.toUInt8, (128 + (v : Int) / 64 % 64).toNat.toUInt8, (128 + (v : Int) % 64).toNat.toUInt8] ++ t).length := by simp
        unfold Lib.decodeN
        rw [if_neg (by omega), if_neg (by omega), if_neg (by omega), if_pos ⟨by omega, ⟨by omega, by omega⟩, ⟨by omega, by omega⟩, hl, by omega⟩, if_pos (by omega)]
        exact Prod.ext (show _ = v by omega) rfl

/-- A byte that is no right UTF-8. -/
def badD (p : Nat × Nat) : Bool := decide (p.1 = 65533 ∧ p.2 = 1)

theorem decode_ok (l : List UInt8) (h : badD (decodeL l) = false) : okRune (decodeL l).1 = true := by
  have h' : ¬ ((decodeL l).1 = 65533 ∧ (decodeL l).2 = 1) := by simpa [badD] using h
  rw [Lib.decodeL_N] at h' ⊢
  have k0 := (l.getD 0 0).toNat_lt
  have k1 := (l.getD 1 0).toNat_lt
  rcases Lib.decodeN_shape l.length (l.getD 0 0).toNat (l.getD 1 0).toNat (l.getD 2 0).toNat (l.getD 3 0).toNat with ⟨c, e⟩ | ⟨c1, c2, c3, cv, e⟩ | ⟨c1, c2, c3, c4, cv, cs, e⟩ | ⟨c1, c2, c3, c4, c5, cv, cw, e⟩ | e
  all_goals (rw [e] at h' ⊢; simp only [okRune, decide_eq_true_eq])
  · omega
  · omega
  · omega
  · omega
  · exact absurd ⟨rfl, rfl⟩ h'

theorem encode_decode' (l : List UInt8) (hne : l ≠ []) (h : badD (decodeL l) = false) : encodeRune ((decodeL l).1 : Int) = l.take (decodeL l).2 :=
  Lib.encode_decode l hne (by simpa [badD] using h)

/-! ### Runes -/
def runesN : Nat → List UInt8 → List (Nat × Nat)
  | 0, _ => []
  | n + 1, l => if l = [] then [] else decodeL l :: runesN n (l.drop (decodeL l).2)

theorem runesN_nil : ∀ n, runesN n [] = []
  | 0 => rfl
  | _ + 1 => by simp [runesN]

theorem runesN_fuel : ∀ (n m : Nat) (l : List UInt8), l.length ≤ n → l.length ≤ m → runesN n l = runesN m l
  | 0, m, l, hn, _ => by
    have : l = [] := List.eq_nil_of_length_eq_zero (by omega)
    subst this
    rw [runesN_nil, runesN_nil]
  | n + 1, 0, l, _, hm => by
    have : l = [] := List.eq_nil_of_length_eq_zero (by omega)
    subst this
    rw [runesN_nil, runesN_nil]
  | n + 1, m + 1, l, hn, hm => by
    unfold runesN
    by_cases hne : l = []
    · simp [hne]
    · have hw := Lib.decodeL_width l
      have hl : 0 < l.length := List.length_pos_iff.2 hne
      rw [if_neg hne, if_neg hne, runesN_fuel n m (l.drop (decodeL l).2) (by rw [List.length_drop]; omega) (by rw [List.length_drop]; omega)]

/-- The runes of a text with their widths. -/
def runes (l : List UInt8) : List (Nat × Nat) := runesN l.length l
theorem runes_nil : runes [] = [] := rfl
theorem runes_step (l : List UInt8) (hne : l ≠ []) : runes l = decodeL l :: runes (l.drop (decodeL l).2) := by
  have hl : 0 < l.length := List.length_pos_iff.2 hne
  have hw := Lib.decodeL_width l
  obtain ⟨n, hn⟩ : ∃ n, l.length = n + 1 := ⟨l.length - 1, by omega⟩
  unfold runes
  rw [hn]
  show (if l = [] then [] else _) = _
  rw [if_neg hne, runesN_fuel n (l.drop (decodeL l).2).length _ (by rw [List.length_drop]; omega) (Nat.le_refl _)]

theorem drop_len_lt (l : List UInt8) (hne : l ≠ []) : (l.drop (decodeL l).2).length < l.length := by
  have hl : 0 < l.length := List.length_pos_iff.2 hne
  have hw := Lib.decodeL_width l
  rw [List.length_drop]
  omega

/-- By runes. -/
theorem byRunes {p : List UInt8 → Prop} (h0 : p []) (h1 : ∀ l, l ≠ [] → p (l.drop (decodeL l).2) → p l) (l : List UInt8) : p l := by
  have : ∀ (n : Nat) (l : List UInt8), l.length ≤ n → p l := by
    intro n
    induction n with
    | zero => intro l hl; rw [List.eq_nil_of_length_eq_zero (by omega : l.length = 0)]; exact h0
    | succ n ih =>
      intro l hl
      by_cases hne : l = []
      · rw [hne]; exact h0
      · exact h1 l hne (ih _ (by have := drop_len_lt l hne; omega))
  exact this l.length l (Nat.le_refl _)

theorem runes_len_le : ∀ l : List UInt8, (runes l).length ≤ l.length := by
  refine byRunes (by simp [runes_nil]) fun l hne ih => ?_
  rw [runes_step l hne, List.length_cons]
  have := drop_len_lt l hne
  omega

theorem validD_runes : ∀ l : List UInt8, validD l = !(runes l).any badD := by
  refine byRunes (by simp [runes_nil, Lib.validD_nil]) fun l hne ih => ?_
  rw [Lib.validD_step l hne, runes_step l hne, List.any_cons, ih]
  cases h : badD (decodeL l) with
  | true => rw [if_pos (by simpa [badD] using h)]; rfl
  | false => rw [if_neg (by simpa [badD] using h)]; rfl

theorem validD_tail (l : List UInt8) (hne : l ≠ []) (h : validD l = true) : badD (decodeL l) = false ∧ validD (l.drop (decodeL l).2) = true := by
  rw [Lib.validD_step l hne] at h
  split at h
  · cases h
  · rename_i hn
    exact ⟨by simpa [badD] using hn, h⟩

theorem validD_encode (v : Nat) (hv : okRune v = true) (t : List UInt8) : validD (encodeRune (v : Int) ++ t) = validD t := by
  have hd := decode_encode v hv t
  have hl := Lib.encodeRuneZ_length (v : Int)
  have hl' : 1 ≤ (encodeRune (v : Int)).length := by simpa [encodeRune] using hl.1
  rw [Lib.validD_step _ (by intro h; simp at h; rw [h.1] at hl'; simp at hl'), hd]
  rw [if_neg]
  · simp
  · rintro ⟨h1, h2⟩
    simp only at h1 h2
    subst h1
    exact absurd h2 (by decide)

theorem validD_append : ∀ (a b : List UInt8), validD a = true → validD (a ++ b) = validD b := by
  intro a
  refine byRunes (p := fun a => ∀ b, validD a = true → validD (a ++ b) = validD b) (by simp) (fun l hne ih b hv => ?_) a
  obtain ⟨h1, h2⟩ := validD_tail l hne hv
  have he := encode_decode' l hne h1
  have : l ++ b = encodeRune ((decodeL l).1 : Int) ++ (l.drop (decodeL l).2 ++ b) := by
    rw [he, ← List.append_assoc, List.take_append_drop]
  rw [this, validD_encode _ (decode_ok l h1)]
  exact ih b h2

theorem validD_enc1 (v : Nat) (hv : okRune v = true) : validD (encodeRune (v : Int)) = true := by
  have := validD_encode v hv []
  rwa [List.append_nil] at this

/-! ### How an atom is written -/
def escF (r : Nat) : Nat :=
  if r = 8 then 98 else if r = 9 then 116 else if r = 10 then 110 else if r = 11 then 118 else if r = 12 then 102 else if r = 13 then 114 else if r = 27 then 101 else if r = 127 then 100 else 0

def hexD (n : Nat) : UInt8 := (if n < 10 then 48 + n else 87 + n).toUInt8
def hexL (r : Nat) : List UInt8 := if r < 16 then [hexD r] else [hexD (r / 16), hexD (r % 16)]

def escR (r : Nat) : List UInt8 :=
  if r = 39 ∨ r = 92 then [92, r.toUInt8]
  else if escF r ≠ 0 then [92, (escF r).toUInt8]
  else if r < 32 ∨ (128 ≤ r ∧ r < 160) then [92, 120, 123] ++ hexL r ++ [125]
  else encodeRune (r : Int)

def quoteL (l : List UInt8) : List UInt8 := [39] ++ (runes l).flatMap (fun p => escR p.1) ++ [39]

/-! ### How what stands in quotes is read -/
def dig (c : UInt8) (base : Nat) : Option Nat :=
  let n := if 48 ≤ c.toNat ∧ c.toNat ≤ 57 then c.toNat - 48 else if 97 ≤ c.toNat ∧ c.toNat ≤ 102 then c.toNat - 87 else if 65 ≤ c.toNat ∧ c.toNat ≤ 70 then c.toNat - 55 else 99
  if n < base then some n else none

def readNum (base : Nat) : Nat → List UInt8 → Nat → Nat × Nat
  | 0, _, n => (n, 0)
  | _ + 1, [], n => (n, 0)
  | k + 1, c :: t, n =>
    match dig c base with
    | none => (n, 0)
    | some d => ((readNum base k t (n * base + d)).1, (readNum base k t (n * base + d)).2 + 1)

def ctrl (c : UInt8) : Option Nat :=
  if 97 ≤ c.toNat ∧ c.toNat ≤ 122 then some (c.toNat - 96)
  else if 64 ≤ c.toNat ∧ c.toNat ≤ 95 then some (c.toNat - 64)
  else none

/-- The rune that a letter stands for. -/
def unescF (c : Nat) : Option Nat :=
  if c = 115 then some 32 else if c = 98 then some 8 else if c = 116 then some 9 else if c = 110 then some 10 else if c = 118 then some 11 else if c = 102 then some 12 else if c = 114 then some 13 else if c = 101 then some 27 else if c = 100 then some 127 else none

/-- What stands behind a backslash: a number, how many bytes; none: no text. -/
def escapeL (l : List UInt8) : Option (Nat × Nat) :=
  match l with
  | [] => none
  | c :: t =>
    if c = 120 then
      match t with
      | 123 :: u => if (readNum 16 u.length u 0).2 = 0 then none else if u[(readNum 16 u.length u 0).2]? = some 125 then some ((readNum 16 u.length u 0).1, (readNum 16 u.length u 0).2 + 3) else none
      | _ => if (readNum 16 2 t 0).2 = 2 then some ((readNum 16 2 t 0).1, 3) else none
    else if c = 94 then
      match t with
      | [] => none
      | d :: _ => (ctrl d).map fun v => (v, 2)
    else if 48 ≤ c.toNat ∧ c.toNat ≤ 55 then some (readNum 8 3 (c :: t) 0)
    else match unescF c.toNat with
      | some v => some (v, 1)
      | none => if badD (decodeL (c :: t)) then none else some (decodeL (c :: t))

/-- What is read up to the closing quote: the bytes, was a number no rune, how many bytes are read. -/
def quotedN : Nat → List UInt8 → List UInt8 → Bool → Nat → Option (List UInt8 × Bool × Nat)
  | 0, _, _, _, _ => none
  | n + 1, l, out, bad, k =>
    match l with
    | [] => none
    | c :: t =>
      if c = 39 then some (out, bad, k + 1)
      else if c = 92 then
        match escapeL t with
        | none => none
        | some (v, j) => if okRune v then quotedN n (t.drop j) (out ++ encodeRune (v : Int)) bad (k + 1 + j) else quotedN n (t.drop j) out true (k + 1 + j)
      else if badD (decodeL (c :: t)) then none
      else quotedN n ((c :: t).drop (decodeL (c :: t)).2) (out ++ encodeRune ((decodeL (c :: t)).1 : Int)) bad (k + (decodeL (c :: t)).2)

theorem readNum_most (base : Nat) : ∀ (k : Nat) (l : List UInt8) (n : Nat), l.length ≤ k → readNum base k l n = readNum base l.length l n
  | 0, l, n, h => by
    have : l = [] := List.eq_nil_of_length_eq_zero (by omega)
    subst this
    rfl
  | k + 1, [], n, _ => rfl
  | k + 1, c :: t, n, h => by
    simp only [List.length_cons, readNum]
    cases dig c base with
    | none => rfl
    | some d => dsimp only; rw [readNum_most base k t _ (by simpa using h)]

theorem readNum_le (base : Nat) : ∀ (k : Nat) (l : List UInt8) (n : Nat), (readNum base k l n).2 ≤ k ∧ (readNum base k l n).2 ≤ l.length
  | 0, l, n => by simp [readNum]
  | k + 1, [], n => by simp [readNum]
  | k + 1, c :: t, n => by
    simp only [readNum]
    cases dig c base with
    | none => simp
    | some d =>
      have := readNum_le base k t (n * base + d)
      simp only [List.length_cons]
      omega

/-- What was read is right UTF-8. -/
theorem quotedN_valid : ∀ (n : Nat) (l out : List UInt8) (bad : Bool) (k : Nat), validD out = true → ∀ o b j, quotedN n l out bad k = some (o, b, j) → validD o = true := by
  intro n
  induction n with
  | zero => intro l out bad k _ o b j h; simp [quotedN] at h
  | succ n ih =>
    intro l out bad k ho o b j h
    cases l with
    | nil => simp [quotedN] at h
    | cons c t =>
      simp only [quotedN] at h
      split at h
      · simp at h; rw [← h.1]; exact ho
      · split at h
        · split at h
          · cases h
          · split at h
            · exact ih _ _ _ _ (by rw [validD_append _ _ ho]; exact validD_enc1 _ ‹_›) _ _ _ h
            · exact ih _ _ _ _ ho _ _ _ h
        · split at h
          · cases h
          · rename_i hb
            exact ih _ _ _ _ (by rw [validD_append _ _ ho]; exact validD_enc1 _ (decode_ok _ (by simpa using hb))) _ _ _ h

/-- Where it ends. -/
theorem quotedN_at : ∀ (n : Nat) (l out : List UInt8) (bad : Bool) (k : Nat) o b j, quotedN n l out bad k = some (o, b, j) → k < j ∧ j ≤ k + l.length := by
  intro n
  induction n with
  | zero => intro l out bad k o b j h; simp [quotedN] at h
  | succ n ih =>
    intro l out bad k o b j h
    cases l with
    | nil => simp [quotedN] at h
    | cons c t =>
      simp only [quotedN] at h
      split at h
      · simp at h
        simp
        omega
      · split at h
        · split at h
          · cases h
          · rename_i v j' _
            split at h
            · have := ih _ _ _ _ _ _ _ h
              rw [List.length_drop] at this
              simp only [List.length_cons]
              constructor
              · omega
              · by_cases hj : j' ≤ t.length
                · omega
                · have h2 : t.drop j' = [] := List.drop_eq_nil_of_le (by omega)
                  rw [h2] at h
                  cases n <;> simp [quotedN] at h
            · have := ih _ _ _ _ _ _ _ h
              rw [List.length_drop] at this
              simp only [List.length_cons]
              constructor
              · omega
              · by_cases hj : j' ≤ t.length
                · omega
                · have h2 : t.drop j' = [] := List.drop_eq_nil_of_le (by omega)
                  rw [h2] at h
                  cases n <;> simp [quotedN] at h
        · split at h
          · cases h
          · have := ih _ _ _ _ _ _ _ h
            have hw := Lib.decodeL_width (c :: t)
            have hle := Lib.decodeL_le (c :: t) (by simp)
            rw [List.length_drop] at this
            omega
end Go.Proofs.YtflbcijmfcmilaaDoor
