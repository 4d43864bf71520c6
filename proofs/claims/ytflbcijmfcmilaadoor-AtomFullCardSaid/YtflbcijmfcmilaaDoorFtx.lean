/- The texts of AtomFull: 'a' and one rune behind it. Plain facts. -/
import Derived.Test.YtflbcijmfcmilaaDoorTwo
import Derived.Test.YtflbcijmfcmilaaDoorBack
import Derived.Test.YtflbcijmfcmilaaDoorRquoted
import Derived.Laws.IdiomStrings
namespace Go.Proofs.YtflbcijmfcmilaaDoor
open Go.RowKit
open Go.Lib (decodeL validD encodeRune)

/-- The i-th text. -/
def tx (i : Nat) : ByteArray := ⟨(97 :: encodeRune ((19968 + i : Nat) : Int)).toArray⟩
def txs (n : Nat) : List ByteArray := (List.range n).map tx

theorem tx_list (i : Nat) : (tx i).data.toList = 97 :: encodeRune ((19968 + i : Nat) : Int) := by simp [tx]
theorem tx_list' (i : Nat) : (tx i).data.toList = encodeRune ((97 : Nat) : Int) ++ (encodeRune ((19968 + i : Nat) : Int) ++ []) := by rw [tx_list, enc_small 97 (by omega)]; simp

theorem ok_tx {i : Nat} (h : i < 4096) : okRune (19968 + i) = true := by unfold okRune; simp; omega

theorem tx_size (i : Nat) : (tx i).size ≤ 5 := by
  have := (enc_len (19968 + i)).2
  have h : (tx i).size = (tx i).data.toList.length := by simp
  rw [h, tx_list, List.length_cons]
  omega

theorem tx_right {i : Nat} (h : i < 4096) : rightL (tx i).data.toList = true := by
  have h1 := (enc_len (19968 + i)).2
  have h2 : validD (tx i).data.toList = true := by
    rw [tx_list', validD_encode 97 (by decide), List.append_nil]
    exact validD_enc1 _ (ok_tx h)
  unfold rightL
  rw [h2, tx_list]
  simp only [List.length_cons, Bool.and_true, decide_eq_true_eq]
  omega

theorem enc_ne (v : Nat) : encodeRune (v : Int) ≠ [] := by
  intro h
  have := (enc_len v).1
  rw [h] at this
  simp at this

theorem runes_enc (v : Nat) (hv : okRune v = true) (t : List UInt8) : runes (encodeRune (v : Int) ++ t) = (v, (encodeRune (v : Int)).length) :: runes t := by
  have hne : encodeRune (v : Int) ++ t ≠ [] := by simp [enc_ne v]
  rw [runes_step _ hne, decode_encode v hv t]
  simp

theorem tx_runes {i : Nat} (h : i < 4096) : (runes (tx i).data.toList).map Prod.fst = [97, 19968 + i] := by
  rw [tx_list', runes_enc 97 (by decide), runes_enc _ (ok_tx h), runes_nil]
  rfl

theorem tx_inj {i j : Nat} (hi : i < 4096) (hj : j < 4096) (h : tx i = tx j) : i = j := by
  have h1 := tx_runes hi
  rw [h, tx_runes hj] at h1
  simp at h1
  omega

theorem tx_of {s : ByteArray} {i : Nat} (hv : validD s.data.toList = true) (h : (runes s.data.toList).map Prod.fst = [97, 19968 + i]) : s = tx i := by
  have h1 := enc_runes _ hv
  have h2 : (runes s.data.toList).flatMap (fun p => encodeRune (p.1 : Int)) = ((runes s.data.toList).map Prod.fst).flatMap (fun v : Nat => encodeRune (v : Int)) := by
    rw [List.flatMap_map]
  rw [h2, h] at h1
  apply ByteArray.ext
  apply Array.toList_inj.1
  rw [tx_list', ← h1]
  simp

theorem txs_len (n : Nat) : (txs n).length = n := by simp [txs]
theorem txs_succ (n : Nat) : txs (n + 1) = txs n ++ [tx n] := by simp [txs, List.range_succ]
theorem txs_get {n i : Nat} {x : ByteArray} : (txs n)[i]? = some x ↔ i < n ∧ x = tx i := by
  unfold txs
  rw [List.getElem?_map]
  by_cases h : i < n
  · rw [List.getElem?_range h]
    simp [h, eq_comm]
  · rw [List.getElem?_eq_none (by simp; omega)]
    simp [h]

theorem txs_new {n : Nat} (h : n < 4096) : placeL (txs n) (tx n) = none := by
  refine place_none fun j hj e => ?_
  rw [txs_len] at hj
  obtain ⟨h1, h2⟩ := txs_get.1 e
  have := tx_inj h (by omega) h2
  omega

theorem put_new {n : Nat} (h : n < 4096) : putN (txs n) (tx n) = ((n + 1, 0), txs (n + 1)) := by
  unfold putN
  rw [if_pos (tx_right h), txs_new h, txs_len, txs_succ]
  exact if_neg (by omega)

/-- What a further text is told. -/
theorem put_full (s : ByteArray) :
    (rightL s.data.toList = false ∧ putN (txs 4096) s = ((0, 20), txs 4096)) ∨
    (∃ i, i < 4096 ∧ rightL s.data.toList = true ∧ (runes s.data.toList).map Prod.fst = [97, 19968 + i] ∧ putN (txs 4096) s = ((i + 1, 0), txs 4096)) ∨
    (rightL s.data.toList = true ∧ (∀ i, i < 4096 → (runes s.data.toList).map Prod.fst ≠ [97, 19968 + i]) ∧ putN (txs 4096) s = ((0, 8), txs 4096)) := by
  unfold putN
  cases hr : rightL s.data.toList with
  | false => exact .inl ⟨rfl, rfl⟩
  | true =>
    have hv : validD s.data.toList = true := by
      unfold rightL at hr
      simp at hr
      exact hr.2
    cases hp : placeL (txs 4096) s with
    | none =>
      refine .inr (.inr ⟨rfl, fun i hi e => ?_, ?_⟩)
      · have e1 := tx_of hv e
        unfold placeL at hp
        rw [List.findIdx?_eq_none_iff] at hp
        have := hp s (List.mem_of_getElem? (i := i) (txs_get.2 ⟨hi, e1⟩))
        simp at this
      · simp only [if_true]
        exact if_pos (by rw [txs_len]; omega)
    | some i =>
      unfold placeL at hp
      rw [List.findIdx?_eq_some_iff_getElem] at hp
      obtain ⟨h1, h2, _⟩ := hp
      have h3 : s = (txs 4096)[i] := by simpa [eq_comm] using h2
      obtain ⟨h4, h5⟩ := txs_get.1 ((List.getElem?_eq_getElem h1).trans (congrArg some h3.symm))
      exact .inr (.inl ⟨i, h4, rfl, by rw [h5]; exact tx_runes h4, rfl⟩)

/-! ### The conversion to runes -/
theorem runesFrom_eq (s : ByteArray) : ∀ (n i : Nat) (acc : Array Value), s.size ≤ i + n → Conv.runesFrom s n i acc = acc ++ ((runes (s.data.toList.drop i)).map fun p => Value.int .i32 (p.1 : Int)).toArray := by
  intro n
  induction n with
  | zero =>
    intro i acc h
    have : s.data.toList.drop i = [] := by rw [List.drop_eq_nil_iff]; simp; omega
    rw [this, runes_nil]
    simp [Conv.runesFrom]
  | succ n ih =>
    intro i acc h
    unfold Conv.runesFrom
    by_cases hi : i < s.size
    · have hne : s.data.toList.drop i ≠ [] := by rw [Ne, List.drop_eq_nil_iff]; simp; omega
      have hd := Lib.decodeL_drop s i
      have h1 : 1 ≤ (decodeL (s.data.toList.drop i)).2 := by
        have := drop_len_lt _ hne
        rw [List.length_drop] at this
        omega
      rw [if_pos hi, runes_step _ hne, hd, List.drop_drop]
      rw [hd] at h1
      simp only
      rw [ih _ _ (by omega)]
      simp
    · have : s.data.toList.drop i = [] := by rw [List.drop_eq_nil_iff]; simp; omega
      rw [if_neg hi, this, runes_nil]
      simp

/-- The runes of a text as cells. -/
def rcs (s : ByteArray) : List Value := (runes s.data.toList).map fun p => .int .i32 (p.1 : Int)
theorem rcs_len (s : ByteArray) : (rcs s).length = (runes s.data.toList).length := by simp [rcs]

theorem run_runes (w : World) (s : ByteArray) :
    (convert 9 41 (.string s)).run Tryd.prog w = .ok (.slice (some ⟨w.heap.size, 0, none⟩) (rcs s).length (grownCap w (rcs s).length 0 21))
      (w.drew.alloc (.cells ((rcs s).toArray ++ Array.replicate (grownCap w (rcs s).length 0 21 - (rcs s).length) (.int .i32 0)) 21)) := by
  have h := runesFrom_eq s s.size 0 #[] (by omega)
  rw [List.drop_zero] at h
  have h41 : Tryd.prog.underlying 41 = some (.slice 21) := by kernel_rfl
  have h21 : Tryd.prog.underlying 21 = some (.int .i32) := by kernel_rfl
  simp [convert, run_underlying Tryd.underlying9, run_underlying h41, run_underlying h21, Conv.stringToRunes, Question.forced, newRow, grownCap, h, rcs]
end Go.Proofs.YtflbcijmfcmilaaDoor
