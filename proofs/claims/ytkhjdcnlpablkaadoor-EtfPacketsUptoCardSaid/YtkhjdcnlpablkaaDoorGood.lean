/- Plain: what bytes are read as is a right term. -/
import Derived.Test.YtkhjdcnlpablkaaDoorCut2
namespace Go.Proofs.YtkhjdcnlpablkaaDoor
open Go.Lib (validD)

theorem empty_toList : (⟨#[]⟩ : ByteArray).toList = [] := by rw [ByteArray.toList_eq]
/-- A cell with no text. -/
theorem E_plain {k n : Int} (hk : 1 ≤ k) (h8 : k < 8) (h2 : k ≠ 2) (h0 : k = 1 ∨ k = 3 ∨ k = 4 ∨ k = 5 ∨ n = 0) (h3 : k = 3 → 1 ≤ n ∧ n ≤ 281474976710656) (h4 : k = 4 → 1 ≤ n ∧ n ≤ 1099511627776) (h5 : k = 5 → 0 ≤ n ∧ n ≤ 255) : (⟨k, n, ⟨#[]⟩⟩ : Ce).E = 0 := by
  unfold Ce.E cellE
  simp only
  rw [if_neg (by omega), if_neg (by rintro ⟨_, e⟩; exact e empty_toList), if_neg (by omega), if_neg (by omega), if_neg (by omega), if_neg (by omega), if_neg (by omega), if_neg (by omega)]
theorem E_text2 {s : ByteArray} (h : s.size ≤ 255) (hv : validD s.data.toList = true) : (⟨2, 0, s⟩ : Ce).E = 0 := by
  unfold Ce.E cellE
  simp only
  rw [if_neg (by omega), if_neg (by rintro ⟨e, _⟩; simp at e), if_neg (by omega), if_neg (by omega), if_neg (by omega), if_neg (by omega), if_neg (by rintro ⟨_, e⟩; rcases e with e | e; omega; rw [hv] at e; cases e), if_neg (by omega)]
theorem E_text8 {s : ByteArray} (h : s.size ≤ 1024) : (⟨8, 0, s⟩ : Ce).E = 0 := by
  unfold Ce.E cellE
  simp only
  rw [if_neg (by omega), if_neg (by rintro ⟨e, _⟩; simp at e), if_neg (by omega), if_neg (by omega), if_neg (by omega), if_neg (by omega), if_neg (by omega), if_neg (by omega)]

/-- A cell that is a term. -/
def LeafC (c : Ce) : Prop := c.E = 0 ∧ c.kind ≠ 5 ∧ c.kind ≠ 7 ∧ c.i64
theorem leaf_int {n : Int} (h1 : -9223372036854775808 ≤ n) (h2 : n ≤ 9223372036854775807) : LeafC (intC n) :=
  ⟨E_plain (by omega) (by omega) (by omega) (.inl rfl) (by omega) (by omega) (by omega), by show (1 : Int) ≠ 5; omega, by show (1 : Int) ≠ 7; omega, h1, h2⟩
theorem leaf_nil : LeafC nilC :=
  ⟨E_plain (by omega) (by omega) (by omega) (by omega) (by omega) (by omega) (by omega), by show (6 : Int) ≠ 5; omega, by show (6 : Int) ≠ 7; omega, by show (-9223372036854775808 : Int) ≤ 0; omega, by show (0 : Int) ≤ _; omega⟩

/-- What one step reads. -/
inductive Out (s : Rs) : Rs × Nat × Bool → Prop where
  | leaf (p : Nat) (c : Ce) (h : LeafC c) : Out s (⟨p, s.cells + 1, s.out ++ [c]⟩, 0, false)
  | chars (p : Nat) (l : List UInt8) : Out s (⟨p, s.cells + (2 * l.length + 1), s.out ++ charCs l ++ [nilC]⟩, 0, false)
  | tup (p n : Nat) (h : n ≤ 255) : Out s (⟨p, s.cells + 1, s.out ++ [⟨5, n, ⟨#[]⟩⟩]⟩, n, false)
  | list (p n : Nat) : Out s (⟨p, s.cells + n, s.out⟩, n + 1, true)

theorem Out.made {s : Rs} {p tg : Nat} {c : Ce} {x : Rs × Nat × Bool} (h : madeD s p tg c = .ok x) (hc : LeafC c) : Out s x := by
  rw [(madeD_ok h).1]
  exact .leaf p c hc
theorem textD_right {bs : List UInt8} {pos tag tg : Nat} {x : ByteArray × Nat} (h : textD bs pos tag tg = .ok x) : x.1.size ≤ 255 ∧ validD x.1.data.toList = true := by
  unfold textD at h
  obtain ⟨n, h1, h⟩ := Res.bind_ok h
  obtain ⟨l, h2, h⟩ := Res.bind_ok h
  split at h
  · rename_i hr
    cases h
    unfold rightL at hr
    simp only [Bool.and_eq_true, decide_eq_true_eq] at hr
    have : (⟨l.toArray⟩ : ByteArray).size = l.length := by show l.toArray.size = _; simp
    exact ⟨by rw [this]; exact hr.1, by simpa using hr.2⟩
  · cases h
theorem bigD_i64 {bs : List UInt8} {pos tg : Nat} {x : Int × Nat} (h : bigD bs pos tg = .ok x) : -9223372036854775808 ≤ x.1 ∧ x.1 ≤ 9223372036854775807 := by
  unfold bigD at h
  obtain ⟨n, h1, h⟩ := Res.bind_ok h
  obtain ⟨sg, h2, h⟩ := Res.bind_ok h
  obtain ⟨l, h3, h⟩ := Res.bind_ok h
  split at h
  · cases h
  · split at h
    · cases h
    · cases h
      simp only
      split <;> omega
theorem pidD_val {bs : List UInt8} {pos tg : Nat} {x : Int × Nat} (h : pidD bs pos tg = .ok x) : 1 ≤ x.1 ∧ x.1 ≤ 1099511627776 := by
  unfold pidD at h
  obtain ⟨p, h1, h⟩ := Res.bind_ok h
  obtain ⟨a, h2, h⟩ := Res.bind_ok h
  obtain ⟨b, h3, h⟩ := Res.bind_ok h
  obtain ⟨c, h4, h⟩ := Res.bind_ok h
  split at h
  · cases h
  · cases h; simp only; omega
theorem refV_val {l : List UInt8} {k n : Nat} (h : refV l k = some n) : 1 ≤ n ∧ n ≤ 281474976710656 := by
  unfold refV at h
  split at h
  · cases h
  · split at h
    · cases h
    · split at h
      · cases h
      · cases h; omega
theorem refD_val {bs : List UInt8} {pos tg : Nat} {x : Int × Nat} (h : refD bs pos tg = .ok x) : 1 ≤ x.1 ∧ x.1 ≤ 281474976710656 := by
  unfold refD at h
  obtain ⟨k, h0, h⟩ := Res.bind_ok h
  obtain ⟨p, h1, h⟩ := Res.bind_ok h
  obtain ⟨a, h2, h⟩ := Res.bind_ok h
  obtain ⟨l, h3, h⟩ := Res.bind_ok h
  split at h
  · cases h
  · rename_i n hn
    have := refV_val hn
    cases h
    simp only
    omega
theorem num_lt {bs : List UInt8} {p n v : Nat} (h : numD bs p n = .ok v) : v < 256 ^ n := by
  have h2 := numD_ok h
  have := beN_lt (rest bs p n)
  rw [rest_len h2.1] at this
  rw [h2.2]
  exact this

theorem one_out {bs : List UInt8} {s : Rs} {x : Rs × Nat × Bool} (h : oneD bs s = .ok x) : Out s x := by
  unfold oneD at h
  obtain ⟨tag, h1, h⟩ := Res.bind_ok h
  unfold bodyD at h
  by_cases q0 : tag = 97
  · rw [if_pos q0] at h
    obtain ⟨n, h2, h⟩ := Res.bind_ok h
    have := num_lt h2
    exact .made h (leaf_int (by omega) (by omega))
  rw [if_neg q0] at h
  by_cases q1 : tag = 98
  · rw [if_pos q1] at h
    obtain ⟨n, h2, h⟩ := Res.bind_ok h
    have := num_lt h2
    exact .made h (leaf_int (by unfold sgn4; split <;> omega) (by unfold sgn4; split <;> omega))
  rw [if_neg q1] at h
  by_cases q2 : tag = 110
  · rw [if_pos q2] at h
    obtain ⟨n, h2, h⟩ := Res.bind_ok h
    have := bigD_i64 h2
    exact .made h (leaf_int this.1 this.2)
  rw [if_neg q2] at h
  by_cases q3 : tag = 119 ∨ tag = 118
  · rw [if_pos q3] at h
    obtain ⟨n, h2, h⟩ := Res.bind_ok h
    have := textD_right h2
    exact .made h ⟨E_text2 this.1 this.2, by show (2 : Int) ≠ 5; omega, by show (2 : Int) ≠ 7; omega, by show (-9223372036854775808 : Int) ≤ 0; omega, by show (0 : Int) ≤ _; omega⟩
  rw [if_neg q3] at h
  by_cases q4 : tag = 104
  · rw [if_pos q4] at h
    obtain ⟨n, h2, h⟩ := Res.bind_ok h
    have := num_lt h2
    obtain ⟨x, h3, h⟩ := Res.bind_ok h
    obtain ⟨h3, h4⟩ := madeD_ok h3
    subst h3
    cases h
    exact .tup _ n (by omega)
  rw [if_neg q4] at h
  by_cases q5 : tag = 105
  · rw [if_pos q5] at h
    obtain ⟨n, h2, h⟩ := Res.bind_ok h
    split at h
    · cases h
    obtain ⟨x, h3, h⟩ := Res.bind_ok h
    obtain ⟨h3, h4⟩ := madeD_ok h3
    subst h3
    cases h
    exact .tup _ n (by omega)
  rw [if_neg q5] at h
  by_cases q6 : tag = 106
  · rw [if_pos q6] at h
    exact .made h leaf_nil
  rw [if_neg q6] at h
  by_cases q7 : tag = 107
  · rw [if_pos q7] at h
    obtain ⟨n, h2, h⟩ := Res.bind_ok h
    obtain ⟨l, h3, h⟩ := Res.bind_ok h
    have h3 := takeD_ok h3
    split at h
    · cases h
    · cases h
      have hl := rest_len h3.1
      rw [← h3.2] at hl
      rw [← hl]
      exact .chars _ l
  rw [if_neg q7] at h
  by_cases q8 : tag = 108
  · rw [if_pos q8] at h
    obtain ⟨n, h2, h⟩ := Res.bind_ok h
    split at h
    · cases h
    · cases h
      exact .list _ n
  rw [if_neg q8] at h
  by_cases q9 : tag = 109
  · rw [if_pos q9] at h
    obtain ⟨n, h2, h⟩ := Res.bind_ok h
    obtain ⟨l, h3, h⟩ := Res.bind_ok h
    have h3 := takeD_ok h3
    have hl := rest_len h3.1
    rw [← h3.2] at hl
    split at h
    · cases h
    · have : (⟨l.toArray⟩ : ByteArray).size = l.length := by show l.toArray.size = _; simp
      exact .made h ⟨E_text8 (by rw [this]; omega), by show (8 : Int) ≠ 5; omega, by show (8 : Int) ≠ 7; omega, by show (-9223372036854775808 : Int) ≤ 0; omega, by show (0 : Int) ≤ _; omega⟩
  rw [if_neg q9] at h
  by_cases q10 : tag = 88
  · rw [if_pos q10] at h
    obtain ⟨x, h2, h⟩ := Res.bind_ok h
    have := pidD_val h2
    exact .made h ⟨E_plain (by omega) (by omega) (by omega) (by omega) (by omega) (by omega) (by omega), by show (4 : Int) ≠ 5; omega, by show (4 : Int) ≠ 7; omega, by show (-9223372036854775808 : Int) ≤ x.1; omega, by show x.1 ≤ 9223372036854775807; omega⟩
  rw [if_neg q10] at h
  by_cases q11 : tag = 90
  · rw [if_pos q11] at h
    obtain ⟨x, h2, h⟩ := Res.bind_ok h
    have := refD_val h2
    exact .made h ⟨E_plain (by omega) (by omega) (by omega) (by omega) (by omega) (by omega) (by omega), by show (3 : Int) ≠ 5; omega, by show (3 : Int) ≠ 7; omega, by show (-9223372036854775808 : Int) ≤ x.1; omega, by show x.1 ≤ 9223372036854775807; omega⟩
  rw [if_neg q11] at h
  cases h

/-- A list of bytes. -/
def charT : List UInt8 → T
  | [] => .leaf nilC
  | c :: r => .cons (.leaf (intC (c.toNat : Int))) (charT r)
theorem charT_ok : ∀ l : List UInt8, (charT l).cells = charCs l ++ [nilC] ∧ (charT l).wf ∧ (charT l).sz = 2 * l.length + 1 ∧ (charT l).ints
  | [] => ⟨by simp [charT, T.cells, charCs], ⟨leaf_nil.1, leaf_nil.2.1, leaf_nil.2.2.1⟩, by simp [charT, sz_leaf], fun c hc => by
      simp [charT, T.cells] at hc
      subst hc
      exact leaf_nil.2.2.2⟩
  | c :: r => by
    obtain ⟨h1, h2, h3, h4⟩ := charT_ok r
    have hb := c.toNat_lt
    have hl := leaf_int (n := (c.toNat : Int)) (by omega) (by omega)
    have hcl : (charT (c :: r)).cells = consC :: intC (c.toNat : Int) :: (charT r).cells := by simp [charT, T.cells]
    refine ⟨?_, ⟨⟨hl.1, hl.2.1, hl.2.2.1⟩, h2⟩, ?_, ?_⟩
    · rw [hcl, h1]; rfl
    · show (T.cons _ _).sz = _
      rw [sz_cons, sz_leaf, h3, List.length_cons]; omega
    · intro d hd
      rw [hcl] at hd
      rcases List.mem_cons.1 hd with rfl | hd
      · exact ⟨by show (-9223372036854775808 : Int) ≤ 0; omega, by show (0 : Int) ≤ _; omega⟩
      · rcases List.mem_cons.1 hd with rfl | hd
        · exact hl.2.2.2
        · exact h4 d hd

def intsL (ks : List T) : Prop := ∀ c ∈ T.cellsL ks, c.i64

/-- What k terms' reading leaves. -/
def Got' (k : Nat) (c : Bool) (s s' : Rs) : Prop :=
  (c = false → ∃ ks : List T, ks.length = k ∧ T.wfL ks ∧ intsL ks ∧ s'.out = s.out ++ T.cellsL ks ∧ s'.cells = s.cells + T.szL ks) ∧
  (c = true → 1 ≤ k → ∃ x : T, x.wf ∧ x.ints ∧ s'.out = s.out ++ x.cells ∧ s'.cells + k = s.cells + x.sz + 1)

theorem term_got {s s1 s2 : Rs} {k1 : Nat} {c1 : Bool} (h : Out s (s1, k1, c1)) (hg : Got' k1 c1 s1 s2) (h0 : k1 = 0 → s2 = s1) : ∃ a : T, a.wf ∧ a.ints ∧ s2.out = s.out ++ a.cells ∧ s2.cells = s.cells + a.sz := by
  cases h with
  | leaf p c hc =>
    obtain rfl := h0 rfl
    refine ⟨.leaf c, ⟨hc.1, hc.2.1, hc.2.2.1⟩, fun d hd => ?_, by simp [T.cells], by rw [sz_leaf]⟩
    simp [T.cells] at hd
    subst hd
    exact hc.2.2.2
  | chars p l =>
    obtain rfl := h0 rfl
    obtain ⟨h1, h2, h3, h4⟩ := charT_ok l
    exact ⟨charT l, h2, h4, by rw [h1]; simp, by rw [h3]⟩
  | tup p n hn =>
    obtain ⟨ks, h1, h2, h3, h4, h5⟩ := hg.1 rfl
    refine ⟨.tup ⟨5, k1, ⟨#[]⟩⟩ ks, ⟨E_plain (by omega) (by omega) (by omega) (by omega) (by omega) (by omega) (by omega), rfl, by rw [h1], h2⟩, fun d hd => ?_, ?_, ?_⟩
    · simp [T.cells] at hd
      rcases hd with rfl | hd
      · exact ⟨by show (-9223372036854775808 : Int) ≤ (k1 : Int); omega, by show (k1 : Int) ≤ _; omega⟩
      · exact h3 d hd
    · rw [h4]; simp [T.cells]
    · rw [h5, sz_tup]; simp only; omega
  | list p n =>
    obtain ⟨x, h1, h2, h3, h4⟩ := hg.2 rfl (by omega)
    exact ⟨x, h1, h2, h3, by simp only at h4; omega⟩

theorem kids_got (bs : List UInt8) : ∀ (f k : Nat) (c : Bool) (s s' : Rs), kidsD bs f k c s = some (.ok s') → Got' k c s s' ∧ (k = 0 → s' = s) ∧ (1 ≤ k → s'.cells ≤ 1024)
  | f, 0, c, s, s', h => by
    have h' : s = s' := by simpa [kidsD] using h
    subst h'
    exact ⟨⟨fun _ => ⟨[], rfl, trivial, fun c hc => by simp [T.cellsL] at hc, by simp [T.cellsL], by simp [szL_nil]⟩, fun _ h1 => by omega⟩, fun _ => rfl, fun h1 => by omega⟩
  | 0, _ + 1, _, _, _, h => by simp [kidsD] at h
  | f + 1, k + 1, c, s, s', h => by
    rw [kidsD] at h
    cases h1 : oneD bs (push c k s) with
    | bad e p => rw [h1] at h; cases h
    | ok x =>
      obtain ⟨s1, k1, c1⟩ := x
      rw [h1] at h
      simp only at h
      cases h2 : kidsD bs f k1 c1 s1 with
      | none => rw [h2] at h; cases h
      | some y =>
        rw [h2] at h
        cases y with
        | bad e p => cases h
        | ok s2 =>
          simp only at h
          obtain ⟨g1, z1, m1⟩ := kids_got bs f k1 c1 s1 s2 h2
          obtain ⟨g2, z2, m2⟩ := kids_got bs f k c s2 s' h
          obtain ⟨a, a1, a2, a3, a4⟩ := term_got (one_out h1) g1 z1
          have hp := (push_pos c k s).2
          rw [hp] at a4
          have ho := (oneD_ok h1).2.2.1
          have hm2 : s2.cells ≤ 1024 := by
            by_cases hk : k1 = 0
            · rw [z1 hk]; exact ho
            · exact m1 (by omega)
          refine ⟨⟨?_, ?_⟩, fun e => by omega, fun _ => ?_⟩
          · rintro rfl
            obtain ⟨ks, b1, b2, b3, b4, b5⟩ := g2.1 rfl
            have hps : push false k s = s := rfl
            rw [hps] at a3
            refine ⟨a :: ks, by rw [List.length_cons, b1], ⟨a1, b2⟩, fun d hd => ?_, ?_, ?_⟩
            · simp only [T.cellsL, List.mem_append] at hd
              rcases hd with hd | hd
              · exact a2 d hd
              · exact b3 d hd
            · rw [b4, a3]; simp [T.cellsL]
            · rw [b5, a4, szL_cons]; omega
          · rintro rfl _
            by_cases hk : k = 0
            · subst hk
              have hps : push true 0 s = s := rfl
              rw [hps] at a3
              rw [z2 rfl]
              exact ⟨a, a1, a2, a3, by omega⟩
            · obtain ⟨x, b1, b2, b3, b4⟩ := g2.2 rfl (by omega)
              have hps : (push true k s).out = s.out ++ [consC] := by
                unfold push
                rw [if_pos (by simp; omega)]
              rw [hps] at a3
              refine ⟨.cons a x, ⟨a1, b1⟩, fun d hd => ?_, ?_, ?_⟩
              · simp only [T.cells, List.mem_cons, List.mem_append] at hd
                rcases hd with rfl | hd | hd
                · exact ⟨by show (-9223372036854775808 : Int) ≤ 0; omega, by show (0 : Int) ≤ _; omega⟩
                · exact a2 d hd
                · exact b2 d hd
              · rw [b3, a3]; simp [T.cells]
              · rw [sz_cons]; omega
          · by_cases hk : k = 0
            · rw [z2 hk]; exact hm2
            · exact m2 (by omega)

/-- What is read is a right term. -/
theorem dec_good {bs : List UInt8} {l : List Ce} (h : decD bs = .ok l) : ∃ a : T, a.cells = l ∧ a.wf ∧ a.ints ∧ a.sz ≤ 1024 := by
  unfold decD at h
  split at h
  · cases h
  split at h
  · cases h
  split at h
  · rename_i s hk
    split at h
    · cases h
    cases h
    obtain ⟨g, _, m⟩ := kids_got _ _ _ _ _ _ hk
    obtain ⟨ks, b1, b2, b3, b4, b5⟩ := g.1 rfl
    obtain ⟨a, rfl⟩ : ∃ a, ks = [a] := by
      cases ks with
      | nil => simp at b1
      | cons a r =>
        simp at b1
        subst b1
        exact ⟨a, rfl⟩
    have hm := m (Nat.le_refl _)
    simp [T.cellsL] at b4
    refine ⟨a, b4.symm, b2.1, fun c hc => b3 c (by simp [T.cellsL, hc]), ?_⟩
    rw [szL_cons, szL_nil] at b5
    simp only at b5
    omega
  · cases h
  · cases h
end Go.Proofs.YtkhjdcnlpablkaaDoor
