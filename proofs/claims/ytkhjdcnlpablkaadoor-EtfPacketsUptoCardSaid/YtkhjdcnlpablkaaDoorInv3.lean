/- Plain: the whole encoding is read; how long it is. -/
import Derived.Test.YtkhjdcnlpablkaaDoorInv2
namespace Go.Proofs.YtkhjdcnlpablkaaDoor

theorem dec_enc {a : T} (hw : a.wf) (hi : a.ints) (hs : a.sz ≤ 1024) (x : List UInt8) (hl : (131 :: (a.enc ++ x)).length ≤ 1048576) :
    decD (131 :: (a.enc ++ x)) = if x = [] then .ok a.cells else .bad 63 (1 + a.enc.length) := by
  obtain ⟨bs, hbs⟩ : ∃ bs, 131 :: (a.enc ++ x) = bs := ⟨_, rfl⟩
  have hA : At bs 1 a.enc x := ⟨by rw [← hbs]; simp, by rw [← hbs]; rfl⟩
  obtain ⟨s1, k1, c1, h1, h2⟩ := reads 1025 bs x ⟨1, 0, []⟩ a (by omega) hw hi hA (by show 0 + a.sz ≤ 1024; omega)
  have h3 := Runs.step (c := false) (k := 0) (s := ⟨1, 0, []⟩) (by simpa [push] using h1) h2 Runs.zero
  obtain ⟨r2, h4, _⟩ := kids_total bs (bs.length + 1) 1 false ⟨1, 0, []⟩ (by omega) hA.1
  have := Runs.unique h3 ⟨_, h4⟩
  subst this
  have hlen := hA.len
  rw [hbs] at hl ⊢
  unfold decD
  rw [if_neg (by omega), if_neg, h4]
  · simp only [List.nil_append]
    cases x with
    | nil =>
      simp at hlen
      rw [if_neg (by omega), if_pos rfl]
    | cons y ys =>
      simp at hlen
      rw [if_pos (by omega), if_neg (by simp)]
  · rw [← hbs]
    simp

/-! ### How long -/
mutual
/-- Tuples and conses. -/
def T.tc : T → Nat × Nat
  | .leaf _ => (0, 0)
  | .tup _ ks => ((T.tcL ks).1 + 1, (T.tcL ks).2)
  | .cons h t => (h.tc.1 + t.tc.1, h.tc.2 + t.tc.2 + 1)
def T.tcL : List T → Nat × Nat
  | [] => (0, 0)
  | k :: ks => (k.tc.1 + (T.tcL ks).1, k.tc.2 + (T.tcL ks).2)
end

theorem leaf_len {c : Ce} (h : c.E = 0) : (leafB c).length ≤ 1029 := by
  obtain ⟨_, _, _, _, _, _, _, k2, k8⟩ := cell_zero h
  have hs : c.text.data.toList.length = c.text.size := by simp
  unfold leafB
  split
  · have := intB_len c.n; omega
  split
  · have := (k2 (by assumption)).1
    simp [atomB]; omega
  split
  · simp [be2, be4, atomB, nodeS]
  split
  · simp [be4, atomB, nodeS]
  split
  · simp
  split
  · have := k8 (by assumption)
    simp [be4]; omega
  · simp
theorem leaf_pos {c : Ce} (h : c.E = 0) (h5 : c.kind ≠ 5) (h7 : c.kind ≠ 7) : 1 ≤ (leafB c).length := by
  obtain ⟨k1, k8, _⟩ := cell_zero h
  unfold leafB
  split
  · unfold intB; split
    · simp
    · split <;> simp
  split
  · simp [atomB]
  split
  · simp
  split
  · simp
  split
  · simp
  split
  · simp
  · omega
theorem charB_tc {x : T} (hw : x.wf) : (charB x).length ≤ x.encT.length := by
  induction x using T.byTail with
  | hl c => simp [charB]
  | ht c ks => simp [charB]
  | hc h t ih =>
    have := ih hw.2
    rw [encT_cons, List.length_append]
    cases h with
    | leaf c =>
      have := leaf_pos hw.1.1 hw.1.2.1 hw.1.2.2
      rw [enc_leaf]
      simp only [charB, List.length_cons]
      omega
    | tup c ks => simp [charB]
    | cons p q => simp [charB]

mutual
theorem tc_len : ∀ (a : T), a.wf → a.enc.length + 1027 * a.tc.1 + 1024 * a.tc.2 ≤ 1029 * a.sz ∧ a.encT.length + 1027 * a.tc.1 + 1024 * a.tc.2 ≤ 1029 * a.sz ∧ a.sz ≤ 1 + 255 * a.tc.1 + 2 * a.tc.2
  | .leaf c, hw => by
    have := leaf_len hw.1
    rw [encT_leaf, enc_leaf, sz_leaf]
    simp only [T.tc]
    omega
  | .tup c ks, hw => by
    obtain ⟨h1, h2⟩ := tcL_len ks hw.2.2.2
    obtain ⟨_, _, _, _, _, _, k5, _⟩ := cell_zero hw.1
    have := k5 hw.2.1
    have := hw.2.2.1
    rw [encT_tup, enc_tup, sz_tup, List.length_append]
    simp only [T.tc, List.length_cons, List.length_nil]
    omega
  | .cons h t, hw => by
    obtain ⟨a1, a2, a3⟩ := tc_len h hw.1
    obtain ⟨b1, b2, b3⟩ := tc_len t hw.2
    have hc := charB_tc (x := T.cons h t) hw
    rw [encT_cons, List.length_append] at hc
    have hp := sz_pos h
    have hq := sz_pos t
    rw [encT_cons, enc_cons, sz_cons, List.length_append]
    simp only [T.tc]
    refine ⟨?_, by omega, by omega⟩
    split
    · simp only [List.length_append, List.length_cons, List.length_nil, be2]
      omega
    · simp only [List.length_append, List.length_cons, List.length_nil, be4]
      omega
theorem tcL_len : ∀ (ks : List T), T.wfL ks → (T.encL ks).length + 1027 * (T.tcL ks).1 + 1024 * (T.tcL ks).2 ≤ 1029 * T.szL ks ∧ T.szL ks ≤ ks.length + 255 * (T.tcL ks).1 + 2 * (T.tcL ks).2
  | [], _ => by rw [encL_nil, szL_nil]; simp [T.tcL]
  | k :: ks, hw => by
    have hkw : k.wf ∧ T.wfL ks := hw
    obtain ⟨a1, a2, a3⟩ := tc_len k hkw.1
    obtain ⟨b1, b2⟩ := tcL_len ks hkw.2
    rw [encL_cons, szL_cons, List.length_append]
    simp only [T.tcL, List.length_cons]
    omega
end

theorem enc_size {a : T} (hw : a.wf) (hs : a.sz ≤ 1024) : 1 + a.enc.length ≤ 1048562 := by
  obtain ⟨h1, _, h3⟩ := tc_len a hw
  obtain ⟨d, hd⟩ : ∃ d, a.tc.1 = d := ⟨_, rfl⟩
  rw [hd] at h1 h3
  by_cases h5 : 5 ≤ d
  · omega
  · obtain rfl | rfl | rfl | rfl | rfl : d = 0 ∨ d = 1 ∨ d = 2 ∨ d = 3 ∨ d = 4 := by omega
    all_goals omega
end Go.Proofs.YtkhjdcnlpablkaaDoor
