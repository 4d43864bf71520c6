/- Plain: a term's bytes; the conses that stand one in another. -/
import Derived.Test.YtkhjdcnlpablkaaDoorPint
namespace Go.Proofs.YtkhjdcnlpablkaaDoor
open Go.Lib (validD)

def nodeS : ByteArray := ⟨#[110, 111, 110, 111, 100, 101, 64, 110, 111, 104, 111, 115, 116]⟩

def leafB (c : Ce) : List UInt8 :=
  if c.kind = 1 then intB c.n
  else if c.kind = 2 then atomB c.text
  else if c.kind = 3 then [90] ++ be2 2 ++ atomB nodeS ++ be4 0 ++ be4 (c.n % 4294967296) ++ be4 (c.n / 4294967296)
  else if c.kind = 4 then [88] ++ atomB nodeS ++ be4 (c.n % 4294967296) ++ be4 (c.n / 4294967296) ++ be4 0
  else if c.kind = 6 then [106]
  else if c.kind = 8 then [109] ++ be4 c.text.size ++ c.text.data.toList
  else []

def isByte : T → Bool
  | .leaf c => decide (c.kind = 1 ∧ 0 ≤ c.n ∧ c.n < 256)
  | _ => false
def runLen : T → Nat
  | .cons _ t => runLen t + 1
  | _ => 0
def allB : T → Bool
  | .cons h t => isByte h && allB t
  | _ => true
def tailT : T → T
  | .cons _ t => tailT t
  | x => x
def spLen : T → Nat
  | .cons h t => 1 + h.sz + spLen t
  | _ => 0
def isNil : T → Bool
  | .leaf c => decide (c.kind = 6)
  | _ => false
def charB : T → List UInt8
  | .cons (.leaf c) t => b8 c.n :: charB t
  | _ => []
def charsOk (t : T) : Bool := allB t && isNil (tailT t) && decide (runLen t ≤ 65535)

mutual
def T.enc2 : T → List UInt8 × List UInt8
  | .leaf c => (leafB c, leafB c)
  | .tup c ks => ([104, b8 c.n] ++ T.encL ks, [104, b8 c.n] ++ T.encL ks)
  | .cons h t => (if charsOk (.cons h t) then [107] ++ be2 (runLen (.cons h t)) ++ charB (.cons h t) else [108] ++ be4 (runLen (.cons h t)) ++ (h.enc2.1 ++ t.enc2.2), h.enc2.1 ++ t.enc2.2)
def T.encL : List T → List UInt8
  | [] => []
  | k :: ks => k.enc2.1 ++ T.encL ks
end
def T.enc (t : T) : List UInt8 := t.enc2.1
/-- In the run of a list. -/
def T.encT (t : T) : List UInt8 := t.enc2.2

theorem enc_leaf (c : Ce) : (T.leaf c).enc = leafB c := by simp [T.enc, T.enc2]
theorem enc_tup (c : Ce) (ks : List T) : (T.tup c ks).enc = [104, b8 c.n] ++ T.encL ks := by simp [T.enc, T.enc2]
theorem enc_cons (h t : T) : (T.cons h t).enc = if charsOk (.cons h t) then [107] ++ be2 (runLen (.cons h t)) ++ charB (.cons h t) else [108] ++ be4 (runLen (.cons h t)) ++ (h.enc ++ t.encT) := by simp [T.enc, T.encT, T.enc2]
theorem encT_cons (h t : T) : (T.cons h t).encT = h.enc ++ t.encT := by simp [T.enc, T.encT, T.enc2]
theorem encT_leaf (c : Ce) : (T.leaf c).encT = (T.leaf c).enc := by simp [T.enc, T.encT, T.enc2]
theorem encT_tup (c : Ce) (ks : List T) : (T.tup c ks).encT = (T.tup c ks).enc := by simp [T.enc, T.encT, T.enc2]
theorem encL_nil : T.encL [] = [] := by simp [T.encL]
theorem encL_cons (k : T) (ks : List T) : T.encL (k :: ks) = k.enc ++ T.encL ks := by simp [T.encL, T.enc]

theorem T.byTail {p : T → Prop} (hl : ∀ c, p (.leaf c)) (ht : ∀ c ks, p (.tup c ks)) (hc : ∀ h t, p t → p (.cons h t)) : ∀ t, p t
  | .leaf c => hl c
  | .tup c ks => ht c ks
  | .cons h t => hc h t (T.byTail hl ht hc t)

/-- The first cell. -/
def T.fst : T → Ce
  | .leaf c => c
  | .tup c _ => c
  | .cons _ _ => consC
theorem cells_fst (t : T) : ∃ r, t.cells = t.fst :: r := by
  cases t with
  | leaf c => exact ⟨[], by simp [T.cells, T.fst]⟩
  | tup c ks => exact ⟨T.cellsL ks, by simp [T.cells, T.fst]⟩
  | cons h t => exact ⟨h.cells ++ t.cells, by simp [T.cells, T.fst]⟩
theorem fst_E {t : T} (h : t.wf) : t.fst.E = 0 := by
  cases t with
  | leaf c => exact h.1
  | tup c ks => exact h.1
  | cons a b => exact consC_E
theorem isByte_fst {t : T} (h : t.wf) : isByte t = decide (t.fst.kind = 1 ∧ 0 ≤ t.fst.n ∧ t.fst.n < 256) := by
  cases t with
  | leaf c => rfl
  | tup c ks => exact (decide_eq_false (fun e => by have h1 := h.2.1; have h2 : c.kind = 1 := e.1; omega)).symm
  | cons a b => exact (decide_eq_false (fun e => absurd (show (7 : Int) = 1 from e.1) (by decide))).symm
theorem fst_seven {t : T} (h : t.wf) : (t.fst.kind = 7) ↔ ∃ a b, t = .cons a b := by
  cases t with
  | leaf c => exact ⟨fun e => (h.2.2 e).elim, fun ⟨a, b, e⟩ => by cases e⟩
  | tup c ks => exact ⟨fun e => by have := h.2.1; simp only [T.fst] at e; omega, fun ⟨a, b, e⟩ => by cases e⟩
  | cons a b => exact ⟨fun _ => ⟨a, b, rfl⟩, fun _ => rfl⟩
theorem drop_fst {t : List Ce} {k : Nat} {a : T} {r : List Ce} (h : t.drop k = a.cells ++ r) : t[k]? = some a.fst := by
  obtain ⟨q, hq⟩ := cells_fst a
  rw [hq] at h
  have := congrArg (fun l => l[0]?) h
  simpa [List.getElem?_drop] using this
theorem drop_next {t : List Ce} {k m : Nat} {a r : List Ce} (h : t.drop k = a ++ r) (hm : a.length = m) : t.drop (k + m) = r := by
  rw [← List.drop_drop, h, ← hm, List.drop_left]

theorem run_le (t : T) : runLen t + 1 ≤ t.sz ∧ spLen t + (tailT t).sz = t.sz := by
  induction t using T.byTail with
  | hl c => rw [sz_leaf]; exact ⟨by simp [runLen], by simp [spLen, tailT, sz_leaf]⟩
  | ht c ks => have := sz_pos (T.tup c ks); exact ⟨by simp [runLen]; omega, by simp [spLen, tailT]⟩
  | hc h t ih => have := sz_pos h; rw [sz_cons]; exact ⟨by simp only [runLen]; omega, by simp only [spLen, tailT]; omega⟩
theorem tail_wf {t : T} (h : t.wf) : (tailT t).wf := by
  induction t using T.byTail with
  | hl c => exact h
  | ht c ks => exact h
  | hc a b ih => exact ih h.2

/-! ### How long the bytes are -/
theorem be2_len (n : Int) : (be2 n).length = 2 := rfl
theorem be4_len (n : Int) : (be4 n).length = 4 := rfl
theorem intB_len (n : Int) : (intB n).length ≤ 11 := by
  unfold intB
  split
  · simp
  · split
    · simp [be4]
    · have := leN_len 8 n.natAbs
      simp [leL]; omega
theorem atomB_len (s : ByteArray) : (atomB s).length = s.size + 2 := by simp [atomB]
theorem leafB_len {c : Ce} (h : c.E = 0) : (leafB c).length ≤ 1029 := by
  have hr := E_rest h
  unfold leafB
  split
  · have := intB_len c.n; omega
  · split
    · have := (hr.2.2.2.1 ‹_›).1; rw [atomB_len]; omega
    · split
      · simp [be2_len, be4_len, atomB_len, nodeS]; try decide
      · split
        · simp [be4_len, atomB_len, nodeS]; try decide
        · split
          · simp
          · split
            · have := hr.2.2.2.2 ‹_›
              simp [be4_len]; omega
            · simp
theorem charB_len (t : T) : (charB t).length ≤ runLen t := by
  induction t using T.byTail with
  | hl c => simp [charB]
  | ht c ks => simp [charB]
  | hc h t ih =>
    cases h with
    | leaf c => simp only [charB, runLen, List.length_cons]; omega
    | tup c ks => simp [charB]
    | cons a b => simp [charB]

theorem enc_len_aux : ∀ (n : Nat), (∀ t : T, t.sz ≤ n → t.wf → t.enc.length ≤ 1040 * t.sz ∧ t.encT.length ≤ 1040 * t.sz) ∧ (∀ ks : List T, T.szL ks ≤ n → T.wfL ks → (T.encL ks).length ≤ 1040 * T.szL ks)
  | 0 => ⟨fun t h _ => by have := sz_pos t; omega, fun ks h _ => by
      cases ks with
      | nil => simp [encL_nil]
      | cons k ks => rw [szL_cons] at h; have := sz_pos k; omega⟩
  | n + 1 => by
    have ih := enc_len_aux n
    have h1 : ∀ t : T, t.sz ≤ n + 1 → t.wf → t.enc.length ≤ 1040 * t.sz ∧ t.encT.length ≤ 1040 * t.sz := by
      intro t hs hw
      cases t with
      | leaf c =>
        have := leafB_len hw.1
        rw [encT_leaf, enc_leaf, sz_leaf]
        omega
      | tup c ks =>
        rw [sz_tup] at hs ⊢
        have := ih.2 ks (by omega) hw.2.2.2
        rw [encT_tup, enc_tup, List.length_append]
        simp only [List.length_cons, List.length_nil]
        omega
      | cons a b =>
        rw [sz_cons] at hs ⊢
        have ha := ih.1 a (by omega) hw.1
        have hb := ih.1 b (by omega) hw.2
        have hr := run_le (.cons a b)
        have hc := charB_len (.cons a b)
        rw [sz_cons] at hr
        rw [enc_cons, encT_cons]
        refine ⟨?_, by rw [List.length_append]; omega⟩
        split
        · simp [be2_len]; omega
        · simp [be4_len]; omega
    refine ⟨h1, fun ks hs hw => ?_⟩
    cases ks with
    | nil => simp [encL_nil]
    | cons k ks =>
      rw [szL_cons] at hs ⊢
      have hk := sz_pos k
      have e1 := (h1 k (by omega) hw.1).1
      have e2 := ih.2 ks (by omega) hw.2
      rw [encL_cons, List.length_append]
      omega
theorem enc_len {t : T} (hw : t.wf) : t.enc.length ≤ 1040 * t.sz ∧ t.encT.length ≤ 1040 * t.sz := (enc_len_aux t.sz).1 t (Nat.le_refl _) hw
theorem encL_len {ks : List T} (hw : T.wfL ks) : (T.encL ks).length ≤ 1040 * T.szL ks := (enc_len_aux (T.szL ks)).2 ks (Nat.le_refl _) hw
end Go.Proofs.YtkhjdcnlpablkaaDoor
