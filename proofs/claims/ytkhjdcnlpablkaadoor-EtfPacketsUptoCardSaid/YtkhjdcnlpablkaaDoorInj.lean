/- Plain: right cells are the cells of one term alone. -/
import Derived.Test.YtkhjdcnlpablkaaDoorEnc
namespace Go.Proofs.YtkhjdcnlpablkaaDoor

theorem cellsL_inj : ∀ (n : Nat) (xs bs : List T), T.szL xs ≤ n → T.wfL xs → T.wfL bs → xs.length = bs.length → ∀ r r', T.cellsL xs ++ r = T.cellsL bs ++ r' → xs = bs ∧ r = r'
  | _, [], bs, _, _, _, hl, r, r', h => by
    obtain rfl : bs = [] := List.eq_nil_of_length_eq_zero (by simpa using hl.symm)
    exact ⟨rfl, by simpa [T.cellsL] using h⟩
  | 0, a :: xs, bs, hs, _, _, _, r, r', _ => by rw [szL_cons] at hs; have := sz_pos a; omega
  | n + 1, a :: xs, [], _, _, _, hl, r, r', _ => by simp at hl
  | n + 1, a :: xs, b :: bs, hs, hw, hw', hl, r, r', h => by
    have hl' : xs.length = bs.length := by simpa using hl
    rw [szL_cons] at hs
    have hfst : a.fst = b.fst := by
      obtain ⟨x, hx⟩ := cells_fst a
      obtain ⟨y, hy⟩ := cells_fst b
      simp only [T.cellsL, hx, hy, List.cons_append] at h
      exact (List.cons.inj h).1
    cases a with
    | leaf c =>
      rw [sz_leaf] at hs
      cases b with
      | leaf d =>
        obtain rfl : c = d := hfst
        simp only [T.cellsL, T.cells, List.cons_append, List.nil_append, List.cons.injEq, true_and] at h
        obtain ⟨h1, h2⟩ := cellsL_inj n xs bs (by omega) hw.2 hw'.2 hl' r r' h
        exact ⟨by rw [h1], h2⟩
      | tup d ks =>
        obtain rfl : c = d := hfst
        exact (hw.1.2.1 hw'.1.2.1).elim
      | cons p q => exact (hw.1.2.2 (by have : c = consC := hfst; rw [this]; rfl)).elim
    | tup c ks =>
      rw [sz_tup] at hs
      cases b with
      | leaf d =>
        obtain rfl : c = d := hfst
        exact (hw'.1.2.1 hw.1.2.1).elim
      | tup d ms =>
        obtain rfl : c = d := hfst
        have hkl : ks.length = ms.length := by
          have h1 := hw.1.2.2.1
          have h2 := hw'.1.2.2.1
          omega
        have h' : T.cellsL (ks ++ xs) ++ r = T.cellsL (ms ++ bs) ++ r' := by
          simp only [T.cellsL, T.cells, List.cons_append, List.cons.injEq, true_and] at h
          rw [cellsL_app, cellsL_app]
          exact h
        obtain ⟨h1, h2⟩ := cellsL_inj n (ks ++ xs) (ms ++ bs) (by unfold T.szL at *; rw [cellsL_app, List.length_append]; omega) ((wfL_app _ _).2 ⟨hw.1.2.2.2, hw.2⟩) ((wfL_app _ _).2 ⟨hw'.1.2.2.2, hw'.2⟩) (by rw [List.length_append, List.length_append]; omega) r r' h'
        obtain ⟨h3, h4⟩ := List.append_inj h1 hkl
        exact ⟨by rw [h3, h4], h2⟩
      | cons p q =>
        have h7 : c.kind = 7 := by have : c = consC := hfst; rw [this]; rfl
        have := hw.1.2.1
        omega
    | cons p q =>
      rw [sz_cons] at hs
      cases b with
      | leaf d => exact (hw'.1.2.2 (by have : consC = d := hfst; rw [← this]; rfl)).elim
      | tup d ms =>
        have h7 : d.kind = 7 := by have : consC = d := hfst; rw [← this]; rfl
        have := hw'.1.2.1
        omega
      | cons p' q' =>
        have h' : T.cellsL (p :: q :: xs) ++ r = T.cellsL (p' :: q' :: bs) ++ r' := by
          simp only [T.cellsL, T.cells, List.cons_append, List.cons.injEq, true_and, List.append_assoc] at h ⊢
          exact h
        obtain ⟨h1, h2⟩ := cellsL_inj n (p :: q :: xs) (p' :: q' :: bs) (by rw [szL_cons, szL_cons]; omega) ⟨hw.1.1, hw.1.2, hw.2⟩ ⟨hw'.1.1, hw'.1.2, hw'.2⟩ (by simp [hl']) r r' h'
        simp only [List.cons.injEq] at h1
        obtain ⟨rfl, rfl, rfl⟩ := h1
        exact ⟨rfl, h2⟩
theorem cells_inj {a b : T} (ha : a.wf) (hb : b.wf) (h : a.cells = b.cells) : a = b := by
  have := (cellsL_inj _ [a] [b] (Nat.le_refl _) ⟨ha, trivial⟩ ⟨hb, trivial⟩ rfl [] [] (by simp [T.cellsL, h])).1
  simpa using this
end Go.Proofs.YtkhjdcnlpablkaaDoor
