/- Plain: terms as trees, their cells, their bytes. -/
import Derived.Test.YtkhjdcnlpablkaaDoorRig2
namespace Go.Proofs.YtkhjdcnlpablkaaDoor
open Go.Lib (validD)

inductive T where
  | leaf (c : Ce)
  | tup (c : Ce) (ks : List T)
  | cons (h t : T)

def consC : Ce := ⟨7, 0, ⟨#[]⟩⟩

mutual
def T.cells : T → List Ce
  | .leaf c => [c]
  | .tup c ks => c :: T.cellsL ks
  | .cons h t => consC :: (h.cells ++ t.cells)
def T.cellsL : List T → List Ce
  | [] => []
  | k :: ks => k.cells ++ T.cellsL ks
end

mutual
def T.wf : T → Prop
  | .leaf c => c.E = 0 ∧ c.kind ≠ 5 ∧ c.kind ≠ 7
  | .tup c ks => c.E = 0 ∧ c.kind = 5 ∧ c.n = ks.length ∧ T.wfL ks
  | .cons h t => h.wf ∧ t.wf
def T.wfL : List T → Prop
  | [] => True
  | k :: ks => k.wf ∧ T.wfL ks
end

theorem cellsL_app : ∀ a b : List T, T.cellsL (a ++ b) = T.cellsL a ++ T.cellsL b
  | [], b => by simp [T.cellsL]
  | k :: ks, b => by simp [T.cellsL, cellsL_app ks b]
theorem wfL_app : ∀ a b : List T, T.wfL (a ++ b) ↔ T.wfL a ∧ T.wfL b
  | [], b => by simp [T.wfL]
  | k :: ks, b => by simp [T.wfL, wfL_app ks b, and_assoc]
theorem wfL_mem : ∀ {l : List T}, T.wfL l → ∀ k ∈ l, k.wf
  | [], _, k, h => by simp at h
  | x :: xs, h, k, hk => by
    rcases List.mem_cons.1 hk with rfl | hk
    · exact h.1
    · exact wfL_mem h.2 k hk

def T.sz (t : T) : Nat := t.cells.length
def T.szL (l : List T) : Nat := (T.cellsL l).length
theorem sz_leaf (c : Ce) : (T.leaf c).sz = 1 := by simp [T.sz, T.cells]
theorem sz_tup (c : Ce) (ks : List T) : (T.tup c ks).sz = 1 + T.szL ks := by simp [T.sz, T.cells, T.szL]; omega
theorem sz_cons (h t : T) : (T.cons h t).sz = 1 + h.sz + t.sz := by simp [T.sz, T.cells]; omega
theorem szL_nil : T.szL [] = 0 := rfl
theorem szL_cons (k : T) (ks : List T) : T.szL (k :: ks) = k.sz + T.szL ks := by simp [T.szL, T.cellsL, T.sz]
theorem sz_pos (t : T) : 1 ≤ t.sz := by
  cases t with
  | leaf c => rw [sz_leaf]; omega
  | tup c ks => rw [sz_tup]; omega
  | cons h t => rw [sz_cons]; omega

theorem toList_nil {s : ByteArray} (h : s.toList = []) : s = ⟨#[]⟩ := by
  have h1 : s.data.toList = [] := by
    have := h
    rw [ByteArray.toList_eq] at this
    exact this
  apply ByteArray.ext
  exact Array.toList_inj.1 (by rw [h1])

/-- What a right cell is, by its kind. -/
theorem E_kind {c : Ce} (h : c.E = 0) : 1 ≤ c.kind ∧ c.kind ≤ 8 := by
  unfold Ce.E cellE at h
  split at h
  · cases h
  · omega
theorem E_text {c : Ce} (h : c.E = 0) (hk : c.kind ≠ 2 ∧ c.kind ≠ 8) : c.text = ⟨#[]⟩ := by
  unfold Ce.E cellE at h
  split at h
  · cases h
  · split at h
    · cases h
    · rename_i h2
      apply toList_nil
      apply Classical.byContradiction
      intro hn
      exact h2 ⟨by omega, hn⟩
theorem E_n {c : Ce} (h : c.E = 0) (hk : c.kind ≠ 1 ∧ c.kind ≠ 3 ∧ c.kind ≠ 4 ∧ c.kind ≠ 5) : c.n = 0 := by
  unfold Ce.E cellE at h
  split at h
  · cases h
  · split at h
    · cases h
    · split at h
      · cases h
      · rename_i h3
        apply Classical.byContradiction
        intro hn
        exact h3 ⟨by omega, hn⟩
theorem E_rest {c : Ce} (h : c.E = 0) : (c.kind = 3 → 1 ≤ c.n ∧ c.n ≤ 281474976710656) ∧ (c.kind = 4 → 1 ≤ c.n ∧ c.n ≤ 1099511627776) ∧ (c.kind = 5 → 0 ≤ c.n ∧ c.n ≤ 255) ∧
    (c.kind = 2 → c.text.size ≤ 255 ∧ validD c.text.data.toList = true) ∧ (c.kind = 8 → c.text.size ≤ 1024) := by
  unfold Ce.E cellE at h
  split at h
  · cases h
  · split at h
    · cases h
    · split at h
      · cases h
      · split at h
        · cases h
        · split at h
          · cases h
          · split at h
            · cases h
            · split at h
              · cases h
              · split at h
                · cases h
                · rename_i h3 h4 h5 h2 h8
                  refine ⟨fun e => by omega, fun e => by omega, fun e => by omega, fun e => ⟨by omega, ?_⟩, fun e => by omega⟩
                  cases hv : validD c.text.data.toList with
                  | true => rfl
                  | false => exact (h2 ⟨e, .inr hv⟩).elim

theorem E_cons {c : Ce} (h : c.E = 0) (hk : c.kind = 7) : c = consC := by
  have h1 := E_text h (by omega)
  have h2 := E_n h (by omega)
  cases c
  simp only at hk h1 h2
  subst hk h1 h2
  rfl
theorem consC_E : consC.E = 0 := by
  have h : (⟨#[]⟩ : ByteArray).toList = [] := by rw [ByteArray.toList_eq]
  unfold Ce.E cellE consC
  simp [h]
theorem consC_beh : consC.beh = 2 := by decide

/-- A right list of cells is the cells of so many terms. -/
theorem parseL : ∀ (l : List Ce) (w i : Nat), scanR w i l = (0, 0) → ∃ ts : List T, ts.length = w ∧ T.cellsL ts = l ∧ T.wfL ts
  | [], w, i, h => by
    simp only [scanR] at h
    split at h
    · exact ⟨[], by simpa using ‹w = 0›.symm, rfl, trivial⟩
    · cases h
  | c :: r, w, i, h => by
    simp only [scanR] at h
    split at h
    · rename_i hE
      exact (hE (congrArg Prod.fst h)).elim
    · rename_i hE
      split at h
      · cases h
      · rename_i hw
        obtain ⟨ts, h1, h2, h3⟩ := parseL r _ _ h
        have hE0 : c.E = 0 := by omega
        by_cases h7 : c.kind = 7
        · have hb : c.beh = 2 := by rw [E_cons hE0 h7]; exact consC_beh
          match ts, h1, h2, h3 with
          | [], h1, _, _ => simp at h1; omega
          | [_], h1, _, _ => simp at h1; omega
          | a :: b :: ts, h1, h2, h3 =>
            refine ⟨.cons a b :: ts, by simp at h1 ⊢; omega, ?_, ⟨h3.1, h3.2.1⟩, h3.2.2⟩
            rw [← h2, E_cons hE0 h7]
            simp [T.cellsL, T.cells]
        · by_cases h5 : c.kind = 5
          · have hn := (E_rest hE0).2.2.1 h5
            have hb : c.beh = c.n.toNat := by unfold Ce.beh behN; rw [if_neg h7, if_pos ⟨h5, hn.1, hn.2⟩]
            refine ⟨.tup c (ts.take c.n.toNat) :: ts.drop c.n.toNat, by simp; omega, ?_, ⟨hE0, h5, ?_, ?_⟩, ?_⟩
            · rw [← h2]
              simp only [T.cellsL, T.cells, List.cons_append]
              rw [← cellsL_app, List.take_append_drop]
            · rw [List.length_take]; omega
            · rw [← List.take_append_drop c.n.toNat ts, wfL_app] at h3; exact h3.1
            · rw [← List.take_append_drop c.n.toNat ts, wfL_app] at h3; exact h3.2
          · have hb : c.beh = 0 := by unfold Ce.beh behN; rw [if_neg h7, if_neg (fun e => h5 e.1)]
            refine ⟨.leaf c :: ts, by simp; omega, by rw [← h2]; simp [T.cellsL, T.cells], ⟨hE0, h5, h7⟩, h3⟩

theorem parse {l : List Ce} (h : rightT l = (0, 0)) : ∃ t : T, t.cells = l ∧ t.wf ∧ l.length ≤ 1024 := by
  unfold rightT at h
  split at h
  · cases h
  · split at h
    · cases h
    · rename_i h1 h2
      obtain ⟨ts, h3, h4, h5⟩ := parseL l 1 0 h
      match ts, h3 with
      | [t], _ => exact ⟨t, by simpa [T.cellsL] using h4, h5.1, by omega⟩

theorem beh_leaf {c : Ce} (h5 : c.kind ≠ 5) (h7 : c.kind ≠ 7) : c.beh = 0 := by unfold Ce.beh behN; rw [if_neg h7, if_neg (fun e => h5 e.1)]
theorem beh_tup {c : Ce} (hE : c.E = 0) (h5 : c.kind = 5) : (c.beh : Int) = c.n := by
  have hn := (E_rest hE).2.2.1 h5
  unfold Ce.beh behN
  rw [if_neg (by omega), if_pos ⟨h5, hn.1, hn.2⟩]
  omega

/-- Cells of terms are right. -/
theorem scan_n : ∀ (n : Nat) (ts : List T), T.szL ts ≤ n → T.wfL ts → ∀ (w i : Nat) (r : List Ce), scanR (ts.length + w) i (T.cellsL ts ++ r) = scanR w (i + T.szL ts) r
  | n, [], _, _, w, i, r => by simp [T.cellsL, szL_nil]
  | 0, k :: ks, h, _, w, i, r => by rw [szL_cons] at h; have := sz_pos k; omega
  | n + 1, .leaf c :: ks, h, hw, w, i, r => by
    rw [szL_cons, sz_leaf] at h
    obtain ⟨⟨hE, h5, h7⟩, hw2⟩ := hw
    simp only [T.cellsL, T.cells, List.cons_append, List.nil_append, List.length_cons, scanR]
    rw [if_neg (by omega), if_neg (by omega), beh_leaf h5 h7, show ks.length + 1 + w - 1 + 0 = ks.length + w by omega, scan_n n ks (by omega) hw2 w (i + 1) r, szL_cons, sz_leaf]
    congr 1
    omega
  | n + 1, .tup c xs :: ks, h, hw, w, i, r => by
    rw [szL_cons, sz_tup] at h
    obtain ⟨⟨hE, h5, hn, hx⟩, hw2⟩ := hw
    have hb := beh_tup hE h5
    simp only [T.cellsL, T.cells, List.cons_append, List.length_cons, scanR]
    have h1 := scan_n n (xs ++ ks) (by unfold T.szL at *; rw [cellsL_app, List.length_append]; omega) ((wfL_app _ _).2 ⟨hx, hw2⟩) w (i + 1) r
    rw [List.length_append, cellsL_app] at h1
    rw [if_neg (by omega), if_neg (by omega), show ks.length + 1 + w - 1 + c.beh = xs.length + ks.length + w by omega, h1, szL_cons, sz_tup]
    congr 1
    unfold T.szL
    rw [cellsL_app, List.length_append]
    omega
  | n + 1, .cons a b :: ks, h, hw, w, i, r => by
    rw [szL_cons, sz_cons] at h
    obtain ⟨⟨ha, hb⟩, hw2⟩ := hw
    simp only [T.cellsL, T.cells, List.cons_append, List.length_cons, scanR]
    have h1 := scan_n n (a :: b :: ks) (by rw [szL_cons, szL_cons]; omega) ⟨ha, hb, hw2⟩ w (i + 1) r
    simp only [T.cellsL, List.length_cons] at h1
    rw [if_neg (by rw [consC_E]; omega), if_neg (by omega), consC_beh, show ks.length + 1 + w - 1 + 2 = ks.length + 1 + 1 + w by omega]
    simp only [List.append_assoc] at h1 ⊢
    rw [h1, szL_cons, szL_cons, szL_cons, sz_cons]
    congr 1
    omega

theorem right_of {t : T} (hw : t.wf) (hl : t.sz ≤ 1024) : rightT t.cells = (0, 0) := by
  have h := scan_n _ [t] (Nat.le_refl _) ⟨hw, trivial⟩ 0 0 []
  have hs := sz_pos t
  unfold rightT
  rw [if_neg (by intro e; unfold T.sz at hs; rw [e] at hs; simp at hs), if_neg (by unfold T.sz at hl; omega)]
  simp only [T.cellsL, List.append_nil, List.length_cons, List.length_nil] at h
  rw [show 0 + 1 + 0 = 1 from rfl] at h
  rw [h]
  rfl

/-- The place behind so many terms. -/
theorem end_n : ∀ (n : Nat) (ts : List T), T.szL ts ≤ n → T.wfL ts → 1 ≤ ts.length → ∀ (w i : Nat) (r : List Ce), endR (ts.length + w) i (T.cellsL ts ++ r) = if w = 0 then (i + T.szL ts, 0) else endR w (i + T.szL ts) r
  | n, [], _, _, h1, w, i, r => by simp at h1
  | 0, k :: ks, h, _, _, w, i, r => by rw [szL_cons] at h; have := sz_pos k; omega
  | n + 1, k :: ks, h, hw, _, w, i, r => by
    have key : ∀ (c : Ce) (xs : List T), (k :: ks).length - 1 + w + c.beh = xs.length + w → T.szL (k :: ks) = 1 + T.szL xs → T.cellsL (k :: ks) = c :: T.cellsL xs → T.wfL xs →
        endR ((k :: ks).length + w) i (T.cellsL (k :: ks) ++ r) = if w = 0 then (i + T.szL (k :: ks), 0) else endR w (i + T.szL (k :: ks)) r := by
      intro c xs hb hs hc hx
      rw [hc, List.cons_append]
      simp only [endR]
      rw [show (k :: ks).length + w - 1 + c.beh = xs.length + w by simp only [List.length_cons] at *; omega]
      by_cases h0 : xs.length + w = 0
      · have : xs = [] := List.eq_nil_of_length_eq_zero (by omega)
        subst this
        rw [if_pos h0, if_pos (by omega), hs, szL_nil]
      · rw [if_neg h0]
        by_cases hx0 : xs.length = 0
        · have : xs = [] := List.eq_nil_of_length_eq_zero hx0
          subst this
          rw [if_neg (by simp at h0; omega), hs, szL_nil]
          simp [T.cellsL]
        · rw [end_n n xs (by omega) hx (by omega) w (i + 1) r, hs]
          split
          · congr 1; omega
          · congr 1; omega
    match k, h, hw, key with
    | .leaf c, h, hw, key =>
      obtain ⟨⟨hE, h5, h7⟩, hw2⟩ := hw
      exact key c ks (by rw [beh_leaf h5 h7]; simp) (by rw [szL_cons, sz_leaf]) (by simp [T.cellsL, T.cells]) hw2
    | .tup c xs, h, hw, key =>
      obtain ⟨⟨hE, h5, hn, hx⟩, hw2⟩ := hw
      have hb := beh_tup hE h5
      exact key c (xs ++ ks) (by simp; omega) (by unfold T.szL; rw [cellsL_app]; simp [T.cellsL, T.cells]; omega) (by simp [T.cellsL, T.cells, cellsL_app]) ((wfL_app _ _).2 ⟨hx, hw2⟩)
    | .cons a b, h, hw, key =>
      obtain ⟨⟨ha, hb⟩, hw2⟩ := hw
      exact key consC (a :: b :: ks) (by rw [consC_beh]; simp; omega) (by simp only [szL_cons, sz_cons]; omega) (by simp [T.cellsL, T.cells]) ⟨ha, hb, hw2⟩

theorem end_term {t : List Ce} {a : T} {at' : Nat} {r : List Ce} (hw : a.wf) (h : t.drop at' = a.cells ++ r) : endT t at' = (at' + a.sz, 0) := by
  have hs := sz_pos a
  have hl : at' < t.length := by
    apply Classical.byContradiction
    intro hn
    rw [List.drop_eq_nil_of_le (by omega)] at h
    have := congrArg List.length h
    rw [List.length_append] at this
    unfold T.sz at hs
    simp only [List.length_nil] at this
    omega
  have h1 := end_n _ [a] (Nat.le_refl _) ⟨hw, trivial⟩ (by simp) 0 at' r
  unfold endT
  rw [if_neg (by omega), h]
  simp only [T.cellsL, List.append_nil, List.length_cons, List.length_nil] at h1
  rw [show 0 + 1 + 0 = 1 from rfl] at h1
  rw [h1, if_pos (by first | trivial | rfl), szL_cons, szL_nil]
  rfl
end Go.Proofs.YtkhjdcnlpablkaaDoor
