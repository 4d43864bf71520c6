/- Plain: bytes that stand at a place. -/
import Derived.Test.YtkhjdcnlpablkaaDoorEncode
import Derived.Test.YtkhjdcnlpablkaaDoorDec
namespace Go.Proofs.YtkhjdcnlpablkaaDoor

/-- The bytes l stand at p, then r. -/
def At (bs : List UInt8) (p : Nat) (l r : List UInt8) : Prop := p ≤ bs.length ∧ bs.drop p = l ++ r
theorem At.len {bs l r : List UInt8} {p : Nat} (h : At bs p l r) : p + l.length + r.length = bs.length := by
  have := congrArg List.length h.2
  rw [List.length_drop, List.length_append] at this
  have := h.1
  omega
theorem At.rest {bs l r : List UInt8} {p n : Nat} (h : At bs p l r) (hn : l.length = n) : rest bs p n = l := by
  unfold Proofs.YtkhjdcnlpablkaaDoor.rest
  rw [h.2, ← hn, List.take_left]
theorem At.num {bs l r : List UInt8} {p n : Nat} (h : At bs p l r) (hn : l.length = n) : numD bs p n = .ok (beN l) := by
  have := h.len
  unfold numD
  rw [if_neg (by omega), h.rest hn]
theorem At.take {bs l r : List UInt8} {p n : Nat} (h : At bs p l r) (hn : l.length = n) : takeD bs p n = .ok l := by
  have := h.len
  unfold takeD
  rw [if_neg (by omega), h.rest hn]
theorem At.next {bs l m r : List UInt8} {p n : Nat} (h : At bs p (l ++ m) r) (hn : l.length = n) : At bs (p + n) m r := by
  have := h.len
  rw [List.length_append] at this
  exact ⟨by omega, by rw [← List.drop_drop, h.2, ← hn, List.append_assoc, List.drop_left]⟩
theorem At.fst {bs l m r : List UInt8} {p : Nat} (h : At bs p (l ++ m) r) : At bs p l (m ++ r) := ⟨h.1, by rw [h.2, List.append_assoc]⟩
theorem At.tag {bs l r : List UInt8} {p : Nat} {c : UInt8} (h : At bs p (c :: l) r) : tagD bs p = .ok c.toNat ∧ At bs (p + 1) l r := by
  have h1 : At bs p ([c] ++ l) r := h
  exact ⟨by unfold tagD; rw [h1.fst.num (n := 1) rfl]; simp [beN], h1.next rfl⟩

theorem beN_be4 {n : Int} (h0 : 0 ≤ n) (h1 : n < 4294967296) : (beN (be4 n) : Int) = n := by
  simp [beN, be4, b8_val]
  omega
theorem beN_be2 {n : Int} (h0 : 0 ≤ n) (h1 : n < 65536) : (beN (be2 n) : Int) = n := by
  simp [beN, be2, b8_val]
  omega

theorem made_at {s : Rs} {pos tg : Nat} {c : Ce} (h : s.cells < 1024) : madeD s pos tg c = .ok (⟨pos, s.cells + 1, s.out ++ [c]⟩, 0, false) := by unfold madeD; rw [if_neg (by omega)]
theorem one_tag {bs l r : List UInt8} {s : Rs} {c : UInt8} (h : At bs s.pos (c :: l) r) : oneD bs s = bodyD bs s c.toNat (s.pos + 1) := by
  unfold oneD
  rw [h.tag.1]
  rfl

theorem leV_leN : ∀ (f m : Nat), m < 256 ^ f → leV (leN f m) = m
  | 0, m, h => by simp at h; subst h; rfl
  | f + 1, m, h => by
    rw [leN]
    by_cases hm : m = 0
    · rw [if_pos hm, hm]; rfl
    · rw [if_neg hm, leV, leV_leN f (m / 256) (by rw [Nat.pow_succ] at h; omega)]
      have := b8_val (m : Int)
      omega

/-- An integer's bytes are read. -/
theorem one_int {bs r : List UInt8} {n : Int} {s : Rs} (h : At bs s.pos (intB n) r) (hc : s.cells < 1024) (h1 : -9223372036854775808 ≤ n) (h2 : n ≤ 9223372036854775807) :
    oneD bs s = .ok (⟨s.pos + (intB n).length, s.cells + 1, s.out ++ [intC n]⟩, 0, false) := by
  unfold intB at h ⊢
  by_cases ha : 0 ≤ n ∧ n < 256
  · rw [if_pos ha] at h ⊢
    rw [one_tag h]
    have hb := h.tag.2.num (n := 1) rfl
    show (numD bs (s.pos + 1) 1).bind _ = _
    rw [hb]
    show madeD s _ _ _ = _
    rw [made_at hc]
    have : ((beN [b8 n] : Nat) : Int) = n := by simp [beN, b8_val]; omega
    rw [this]
    rfl
  · rw [if_neg ha] at h ⊢
    by_cases hb : -2147483648 ≤ n ∧ n < 2147483648
    · rw [if_pos hb] at h ⊢
      rw [one_tag h]
      have hd := h.tag.2.num (n := 4) rfl
      show (numD bs (s.pos + 1) 4).bind _ = _
      rw [hd]
      show madeD s _ _ _ = _
      rw [made_at hc]
      have : sgn4 (beN (be4 n)) = n := by
        have : ((beN (be4 n) : Nat) : Int) = n % 4294967296 := by simp [beN, be4, b8_val]; omega
        unfold sgn4
        split <;> omega
      rw [this]
      rfl
    · rw [if_neg hb] at h ⊢
      obtain ⟨m, hm⟩ : ∃ m, n.natAbs = m := ⟨_, rfl⟩
      rw [hm] at h ⊢
      have hlen := leN_len 8 m
      have hv := leV_leN 8 m (by simp; omega)
      obtain ⟨L, hL⟩ : ∃ L, leL m = L := ⟨_, rfl⟩
      have hL' : leN 8 m = L := hL
      rw [hL'] at hlen hv
      rw [hL] at h ⊢
      have hA : At bs s.pos (110 :: ([b8 (L.length : Int)] ++ ([if n < 0 then 1 else 0] ++ L))) r := by simpa using h
      rw [one_tag hA]
      have a1 := hA.tag.2
      have b1 := a1.fst.num (n := 1) rfl
      have a2 := a1.next (n := 1) rfl
      have b2 := a2.fst.num (n := 1) rfl
      have a3 := (a2.next (n := 1) rfl).take (n := L.length) rfl
      have e1 : beN [b8 (L.length : Int)] = L.length := by
        have := b8_val (L.length : Int)
        simp [beN]; omega
      rw [e1] at b1
      have hbig : bigD bs (s.pos + 1) s.pos = .ok (n, s.pos + 1 + 2 + L.length) := by
        unfold bigD
        rw [b1]
        simp only [Res.bind]
        rw [b2]
        simp only
        rw [a3]
        simp only
        rw [hv]
        by_cases hs : n < 0
        · rw [if_pos hs, show beN [(1 : UInt8)] = 1 from rfl, if_neg (by omega), if_neg (by omega), if_pos rfl, show -(m : Int) = n by omega]
        · rw [if_neg hs, show beN [(0 : UInt8)] = 0 from rfl, if_neg (by omega), if_neg (by omega), if_neg (by omega), show (m : Int) = n by omega]
      show (bigD bs (s.pos + 1) s.pos).bind _ = _
      rw [hbig]
      show madeD s _ _ _ = _
      rw [made_at hc]
      simp
      omega

open Go.Lib (validD) in
theorem text_at {bs r : List UInt8} {x : ByteArray} {p tg : Nat} (h : At bs p (b8 (x.size : Int) :: x.data.toList) r) (h1 : x.size ≤ 255) (h2 : validD x.data.toList = true) : textD bs p 119 tg = .ok (x, p + 1 + x.size) := by
  have ha : At bs p ([b8 (x.size : Int)] ++ x.data.toList) r := h
  have hl : x.data.toList.length = x.size := by simp
  have b1 := ha.fst.num (n := 1) rfl
  have b2 := (ha.next (n := 1) rfl).take hl
  have e1 : beN [b8 (x.size : Int)] = x.size := by
    have := b8_val (x.size : Int)
    simp [beN]; omega
  rw [e1] at b1
  have hx : (⟨x.data.toList.toArray⟩ : ByteArray) = x := ByteArray.ext (by simp)
  unfold textD
  simp only [show (if (119 : Nat) = 118 then 2 else 1) = 1 from rfl]
  rw [b1]
  simp only [Res.bind]
  rw [b2]
  simp only
  rw [if_pos (by unfold rightL; rw [h2, hl, decide_eq_true h1]; rfl), hx]

theorem host_at {bs r : List UInt8} {p : Nat} (h : At bs p (atomB nodeS) r) : hostD bs p = .ok (p + 15) := by
  have ha : At bs p (119 :: (b8 (nodeS.size : Int) :: nodeS.data.toList)) r := h
  have b1 := text_at (tg := p) ha.tag.2 (by decide) (by decide)
  unfold hostD
  rw [ha.tag.1]
  simp only [Res.bind]
  rw [show (119 : UInt8).toNat = 119 from rfl, if_neg (by omega), b1]
  rfl

theorem one_ref {bs r : List UInt8} {n : Int} {s : Rs} (h : At bs s.pos ([90] ++ be2 2 ++ atomB nodeS ++ be4 0 ++ be4 (n % 4294967296) ++ be4 (n / 4294967296)) r) (hc : s.cells < 1024) (h1 : 1 ≤ n) (h2 : n ≤ 281474976710656) :
    oneD bs s = .ok (⟨s.pos + 30, s.cells + 1, s.out ++ [⟨3, n, ⟨#[]⟩⟩]⟩, 0, false) := by
  have hA : At bs s.pos (90 :: (be2 2 ++ (atomB nodeS ++ (be4 0 ++ (be4 (n % 4294967296) ++ be4 (n / 4294967296)))))) r := by simpa [List.append_assoc] using h
  rw [one_tag hA]
  have a1 := hA.tag.2
  have b1 := a1.fst.num (n := 2) rfl
  have a2 := a1.next (n := 2) rfl
  have b2 := host_at a2.fst
  have a3 := a2.next (n := 15) rfl
  have b3 := a3.fst.num (n := 4) rfl
  have a4 := (a3.next (n := 4) rfl)
  have b4 := a4.take (n := 8) rfl
  have w0 : refW (be4 (n % 4294967296) ++ be4 (n / 4294967296)) 0 = (n % 4294967296).toNat := by
    have := beN_be4 (n := n % 4294967296) (by omega) (by omega)
    have e : refW (be4 (n % 4294967296) ++ be4 (n / 4294967296)) 0 = beN (be4 (n % 4294967296)) := rfl
    omega
  have w1 : refW (be4 (n % 4294967296) ++ be4 (n / 4294967296)) 1 = (n / 4294967296).toNat := by
    have := beN_be4 (n := n / 4294967296) (by omega) (by omega)
    have e : refW (be4 (n % 4294967296) ++ be4 (n / 4294967296)) 1 = beN (be4 (n / 4294967296)) := rfl
    omega
  obtain ⟨L, hL⟩ : ∃ L, be4 (n % 4294967296) ++ be4 (n / 4294967296) = L := ⟨_, rfl⟩
  rw [hL] at b4 w0 w1
  have hx : refX L 2 = (n / 4294967296).toNat := w1
  have hv : refV L 2 = some n.toNat := by
    unfold refV
    rw [if_neg (by omega), if_neg]
    · rw [w0, hx, if_neg (by omega)]
      congr 1
      omega
    · intro hh
      rcases hh with hh | hh
      · omega
      · simp [List.range, List.range.loop] at hh
  have e2 : beN (be2 2) = 2 := by decide
  rw [e2] at b1
  have hr : refD bs (s.pos + 1) s.pos = .ok (n, s.pos + 30) := by
    unfold refD
    rw [b1]
    simp only [Res.bind]
    rw [b2]
    simp only
    rw [b3]
    simp only
    rw [show 4 * 2 = 8 from rfl, b4]
    simp only
    rw [hv]
    simp only
    rw [show ((n.toNat : Nat) : Int) = n by omega]
  show (refD bs (s.pos + 1) s.pos).bind _ = _
  rw [hr]
  show madeD s _ _ _ = _
  rw [made_at hc]

theorem one_pid {bs r : List UInt8} {n : Int} {s : Rs} (h : At bs s.pos ([88] ++ atomB nodeS ++ be4 (n % 4294967296) ++ be4 (n / 4294967296) ++ be4 0) r) (hc : s.cells < 1024) (h1 : 1 ≤ n) (h2 : n ≤ 1099511627776) :
    oneD bs s = .ok (⟨s.pos + 28, s.cells + 1, s.out ++ [⟨4, n, ⟨#[]⟩⟩]⟩, 0, false) := by
  have hA : At bs s.pos (88 :: (atomB nodeS ++ (be4 (n % 4294967296) ++ (be4 (n / 4294967296) ++ be4 0)))) r := by simpa [List.append_assoc] using h
  rw [one_tag hA]
  have a1 := hA.tag.2
  have b1 := host_at a1.fst
  have a2 := a1.next (n := 15) rfl
  have b2 := a2.fst.num (n := 4) rfl
  have a3 := a2.next (n := 4) rfl
  have b3 := a3.fst.num (n := 4) rfl
  have a4 := a3.next (n := 4) rfl
  have b4 := a4.num (n := 4) rfl
  have w0 := beN_be4 (n := n % 4294967296) (by omega) (by omega)
  have w1 := beN_be4 (n := n / 4294967296) (by omega) (by omega)
  obtain ⟨A, hA'⟩ : ∃ A, beN (be4 (n % 4294967296)) = A := ⟨_, rfl⟩
  obtain ⟨C, hC⟩ : ∃ C, beN (be4 (n / 4294967296)) = C := ⟨_, rfl⟩
  rw [hA'] at b2 w0
  rw [hC] at b3 w1
  have hr : pidD bs (s.pos + 1) s.pos = .ok (n, s.pos + 28) := by
    unfold pidD
    rw [b1]
    simp only [Res.bind]
    rw [b2]
    simp only
    rw [b3]
    simp only
    rw [show s.pos + 1 + 15 + 8 = s.pos + 1 + 15 + 4 + 4 from rfl, b4]
    simp only
    rw [if_neg (by omega), show ((A + C * 4294967296 : Nat) : Int) = n by omega]
  show (pidD bs (s.pos + 1) s.pos).bind _ = _
  rw [hr]
  show madeD s _ _ _ = _
  rw [made_at hc]

theorem cell_zero {c : Ce} (h : c.E = 0) : 1 ≤ c.kind ∧ c.kind ≤ 8 ∧ (c.kind = 2 ∨ c.kind = 8 ∨ c.text.toList = []) ∧ (c.kind = 1 ∨ c.kind = 3 ∨ c.kind = 4 ∨ c.kind = 5 ∨ c.n = 0) ∧ (c.kind = 3 → 1 ≤ c.n ∧ c.n ≤ 281474976710656) ∧
    (c.kind = 4 → 1 ≤ c.n ∧ c.n ≤ 1099511627776) ∧ (c.kind = 5 → 0 ≤ c.n ∧ c.n ≤ 255) ∧ (c.kind = 2 → c.text.size ≤ 255 ∧ Go.Lib.validD c.text.data.toList = true) ∧ (c.kind = 8 → c.text.size ≤ 1024) := by
  unfold Ce.E cellE at h
  split at h
  · omega
  split at h
  · omega
  split at h
  · omega
  split at h
  · omega
  split at h
  · omega
  split at h
  · omega
  split at h
  · omega
  split at h
  · omega
  rename_i h1 h2 h3 h4 h5 h6 h7 h8
  refine ⟨by omega, by omega, ?_, by omega, by omega, by omega, by omega, fun hk => ?_, fun hk => by omega⟩
  · by_cases a : c.kind = 2
    · exact .inl a
    · by_cases b : c.kind = 8
      · exact .inr (.inl b)
      · exact .inr (.inr (Classical.byContradiction fun e => h2 ⟨by omega, e⟩))
  · refine ⟨Nat.le_of_not_lt fun e => h7 ⟨hk, .inl e⟩, ?_⟩
    cases hv : Go.Lib.validD c.text.data.toList with
    | true => rfl
    | false => exact (h7 ⟨hk, .inr hv⟩).elim

theorem ba_loop (x : ByteArray) : ∀ (k i : Nat) (r : List UInt8), x.size - i = k → (ByteArray.toList.loop x i r).length = r.length + k
  | 0, i, r, h => by
    unfold ByteArray.toList.loop
    rw [if_neg (by omega)]
    simp
  | k + 1, i, r, h => by
    unfold ByteArray.toList.loop
    rw [if_pos (by omega), ba_loop x k (i + 1) _ (by omega), List.length_cons]
    omega
theorem ba_nil {x : ByteArray} (h : x.toList = []) : x = ⟨#[]⟩ := by
  have h1 := ba_loop x x.size 0 [] (by omega)
  have h2 : (ByteArray.toList.loop x 0 []).length = 0 := by
    have : ByteArray.toList.loop x 0 [] = [] := h
    rw [this]; rfl
  have h3 : x.size = 0 := by simp at h1; omega
  apply ByteArray.ext
  apply Array.eq_empty_of_size_eq_zero
  exact h3

/-- A leaf's bytes are read. -/
theorem one_leaf {bs r : List UInt8} {c : Ce} {s : Rs} (hE : c.E = 0) (h5 : c.kind ≠ 5) (h7 : c.kind ≠ 7) (hi : -9223372036854775808 ≤ c.n ∧ c.n ≤ 9223372036854775807) (h : At bs s.pos (leafB c) r) (hc : s.cells < 1024) :
    oneD bs s = .ok (⟨s.pos + (leafB c).length, s.cells + 1, s.out ++ [c]⟩, 0, false) := by
  obtain ⟨k1, k8, kt, kn, k3, k4, _, k2, kb⟩ := cell_zero hE
  obtain ⟨kind, n, text⟩ := c
  simp only at *
  by_cases e1 : kind = 1
  · subst e1
    obtain rfl := ba_nil (x := text) (by rcases kt with e | e | e <;> first | omega | exact e)
    exact one_int h hc hi.1 hi.2
  by_cases e2 : kind = 2
  · subst e2
    obtain rfl : n = 0 := by omega
    have hA : At bs s.pos (119 :: (b8 (text.size : Int) :: text.data.toList)) r := h
    rw [one_tag hA]
    have b := text_at (tg := s.pos) hA.tag.2 (k2 rfl).1 (k2 rfl).2
    show (textD bs (s.pos + 1) 119 s.pos).bind _ = _
    rw [b]
    show madeD s _ _ _ = _
    rw [made_at hc]
    have hl : (leafB ⟨2, 0, text⟩).length = 2 + text.size := by show (atomB text).length = _; simp [atomB]; omega
    rw [hl, show s.pos + (2 + text.size) = s.pos + 1 + 1 + text.size by omega]
  by_cases e3 : kind = 3
  · subst e3
    obtain rfl := ba_nil (x := text) (by rcases kt with e | e | e <;> first | omega | exact e)
    exact one_ref h hc (k3 rfl).1 (k3 rfl).2
  by_cases e4 : kind = 4
  · subst e4
    obtain rfl := ba_nil (x := text) (by rcases kt with e | e | e <;> first | omega | exact e)
    exact one_pid h hc (k4 rfl).1 (k4 rfl).2
  by_cases e6 : kind = 6
  · subst e6
    obtain rfl := ba_nil (x := text) (by rcases kt with e | e | e <;> first | omega | exact e)
    obtain rfl : n = 0 := by omega
    have hA : At bs s.pos (106 :: []) r := h
    rw [one_tag hA]
    show madeD s _ _ _ = _
    rw [made_at hc]
    rfl
  have e8 : kind = 8 := by omega
  subst e8
  obtain rfl : n = 0 := by omega
  have hA : At bs s.pos (109 :: (be4 (text.size : Int) ++ text.data.toList)) r := h
  rw [one_tag hA]
  have hl : text.data.toList.length = text.size := by simp
  have b1 := hA.tag.2.fst.num (n := 4) rfl
  have b2 := (hA.tag.2.next (n := 4) rfl).take hl
  have w0 := beN_be4 (n := (text.size : Int)) (by omega) (by have := kb rfl; omega)
  rw [show beN (be4 (text.size : Int)) = text.size by omega] at b1
  have hx : (⟨text.data.toList.toArray⟩ : ByteArray) = text := ByteArray.ext (by simp)
  show (numD bs (s.pos + 1) 4).bind _ = _
  rw [b1]
  simp only [Res.bind]
  rw [b2]
  simp only
  rw [if_neg (by have := kb rfl; omega), made_at hc, hx]
  have hl2 : (leafB ⟨8, 0, text⟩).length = 5 + text.size := by show ([109] ++ be4 _ ++ text.data.toList).length = _; simp [be4]; omega
  rw [hl2, show s.pos + (5 + text.size) = s.pos + 1 + 4 + text.size by omega]
end Go.Proofs.YtkhjdcnlpablkaaDoor
