/- AtomAgain and AtomBack: there and back. -/
import Derived.Test.YtflbcijmfcmilaaDoorScan2
import Derived.Test.YtflbcijmfcmilaaDoorWrites
namespace Go.Proofs.YtflbcijmfcmilaaDoor
open Go.RowKit
open Go.Lib (decodeL encodeRune validD)

theorem bare_facts {l : List UInt8} (h : bareL l = true) : l ≠ [] ∧ l.length ≤ 255 ∧ runTo l = l.length ∧ resL l = false := by
  unfold bareL at h
  simp only [Bool.and_eq_true, decide_eq_true_eq, Bool.not_eq_true'] at h
  exact ⟨h.1.1.1, h.1.1.2, h.1.2, h.2⟩

theorem runTo_cons (x : UInt8) (t : List UInt8) : runTo (x :: t) = if smallB (x.toNat : Int) then ((x :: t).takeWhile insideU).length else 0 := rfl

theorem mem_tw {p : UInt8 → Bool} : ∀ (l : List UInt8) (x : UInt8), x ∈ l.takeWhile p → p x = true
  | [], x, h => by cases h
  | y :: r, x, h => by
    rw [List.takeWhile_cons] at h
    by_cases hp : p y = true
    · rw [if_pos hp] at h
      rcases List.mem_cons.1 h with rfl | h
      · exact hp
      · exact mem_tw r x h
    · rw [if_neg hp] at h; cases h

theorem take_run (l : List UInt8) (x : UInt8) (h : x ∈ l.take (runTo l)) : insideU x = true := by
  cases l with
  | nil => simp at h
  | cons y r =>
    rw [runTo_cons] at h
    by_cases hs : smallB (y.toNat : Int) = true
    · rw [if_pos hs, show ∀ l : List UInt8, l.take ((l.takeWhile insideU).length) = l.takeWhile insideU from fun l => (List.prefix_iff_eq_take.1 (List.takeWhile_prefix _)).symm] at h
      exact mem_tw _ x h
    · rw [if_neg hs] at h
      simp at h

theorem takeWhile_len {p : UInt8 → Bool} : ∀ l : List UInt8, (l.takeWhile p).length = l.length → ∀ x ∈ l, p x = true
  | [], _, x, hx => by cases hx
  | y :: r, h, x, hx => by
    rw [List.takeWhile_cons] at h
    by_cases hp : p y = true
    · rw [if_pos hp] at h
      rcases List.mem_cons.1 hx with rfl | hx
      · exact hp
      · exact takeWhile_len r (by simpa using h) x hx
    · rw [if_neg hp] at h
      simp at h

theorem run_all {l : List UInt8} (h : runTo l = l.length) : ∀ x ∈ l, insideU x = true := by
  cases l with
  | nil => intro x hx; cases hx
  | cons y r =>
    rw [runTo_cons] at h
    by_cases hs : smallB (y.toNat : Int) = true
    · rw [if_pos hs] at h
      exact takeWhile_len _ h
    · rw [if_neg hs] at h
      simp at h

theorem run_head {l : List UInt8} (h : runTo l = l.length) (hne : l ≠ []) : ∃ y r, l = y :: r ∧ smallB (y.toNat : Int) = true := by
  cases l with
  | nil => exact absurd rfl hne
  | cons y r =>
    refine ⟨y, r, rfl, ?_⟩
    rw [runTo_cons] at h
    by_cases hs : smallB (y.toNat : Int) = true
    · exact hs
    · rw [if_neg hs] at h
      simp at h

theorem small_ne {y : UInt8} (h : smallB (y.toNat : Int) = true) : y ≠ 39 := by
  rintro rfl
  exact absurd h (by decide)

theorem inside_ascii {y : UInt8} (h : insideU y = true) : 48 ≤ y.toNat ∧ y.toNat ≤ 122 := by
  unfold insideU insideB smallB at h
  simp only [Bool.or_eq_true, decide_eq_true_eq] at h
  omega

theorem valid_asc : ∀ l : List UInt8, (∀ x ∈ l, x.toNat < 128) → validD l = true
  | [], _ => Lib.validD_nil
  | y :: r, h => by
    rw [Lib.validD_cons y r (h y (by simp))]
    exact valid_asc r (fun x hx => h x (by simp [hx]))

theorem takeWhile_app {p : UInt8 → Bool} : ∀ (l r : List UInt8), (∀ x ∈ l, p x = true) → (∀ x, r.head? = some x → p x = false) → (l ++ r).takeWhile p = l
  | [], r, _, hr => by
    cases r with
    | nil => rfl
    | cons y t => rw [List.nil_append, List.takeWhile_cons, if_neg (by rw [hr y rfl]; decide)]
  | y :: l, r, hl, hr => by
    rw [List.cons_append, List.takeWhile_cons, if_pos (hl y (by simp)), takeWhile_app l r (fun x hx => hl x (by simp [hx])) hr]

theorem runTo_app {l r : List UInt8} (h : runTo l = l.length) (hne : l ≠ []) (hr : ∀ x, r.head? = some x → insideU x = false) : runTo (l ++ r) = l.length := by
  obtain ⟨y, t, rfl, hs⟩ := run_head h hne
  have ha := takeWhile_app (p := insideU) (y :: t) r (run_all h) hr
  rw [List.cons_append] at ha ⊢
  rw [runTo_cons, if_pos hs, ha]

/-- ████ A bare text is read at its end, whatever stands behind it that goes on with no bare atom. -/
theorem scan_bare_app (q r : ByteArray) (h : bareL q.data.toList = true) (hr : ∀ x, r.data.toList.head? = some x → insideU x = false) : scanR (q ++ r) 0 = (q.data.toList, q.size, 0) ∧ (((q ++ r).data.toList.drop 0).head? ≠ some 39) := by
  obtain ⟨h1, h2, h3, h4⟩ := bare_facts h
  have hd : (q ++ r).data.toList = q.data.toList ++ r.data.toList := by rw [ByteArray.data_append, Array.toList_append]
  have hrun := runTo_app h3 h1 hr
  have hl : q.data.toList.length = q.size := by simp
  obtain ⟨y, t, hyt, hs⟩ := run_head h3 h1
  have hhead : ((q ++ r).data.toList.drop 0).head? ≠ some 39 := by
    rw [List.drop_zero, hd, hyt]
    simp
    exact small_ne hs
  refine ⟨?_, hhead⟩
  unfold scanR
  rw [if_neg hhead, List.drop_zero, hd, hrun, List.take_left' rfl, if_neg (by
    rw [h4]
    rintro (h0 | h0)
    · exact h1 (List.eq_nil_of_length_eq_zero h0)
    · cases h0), if_neg (by omega), hl]
  simp

/-- ████ What is written in quotes is read at its end, whatever stands behind it. -/
theorem scan_quote_app (l : List UInt8) (r : ByteArray) (hv : validD l = true) : quotedR ((⟨(quoteL l).toArray⟩ : ByteArray) ++ r) 0 = some (l, false, (quoteL l).length) ∧ (((⟨(quoteL l).toArray⟩ : ByteArray) ++ r).data.toList.drop 0).head? = some 39 := by
  have hd : ((⟨(quoteL l).toArray⟩ : ByteArray) ++ r).data.toList = quoteL l ++ r.data.toList := by rw [ByteArray.data_append, Array.toList_append]
  have hsz : ((⟨(quoteL l).toArray⟩ : ByteArray) ++ r).size = (quoteL l).length + r.size := by rw [ByteArray.size_append]; rfl
  refine ⟨?_, by rw [List.drop_zero, hd]; rfl⟩
  unfold quotedR
  rw [hd]
  exact quote_read l hv r.data.toList _ (by omega)

theorem escRs_le : ∀ rs : List (Nat × Nat), (rs.flatMap (fun p => escR p.1)).length ≤ 6 * rs.length
  | [] => by simp
  | p :: rs => by
    have h1 := escR_le p.1
    have h2 := escRs_le rs
    rw [List.flatMap_cons, List.length_append, List.length_cons]
    omega

theorem quoteL_le (l : List UInt8) : (quoteL l).length ≤ 6 * l.length + 2 := by
  have h1 := escRs_le (runes l)
  have h2 := runes_len_le l
  simp only [quoteL, List.length_append, List.length_cons, List.length_nil]
  omega

theorem ba_nil (x : ByteArray) : x ++ (⟨#[]⟩ : ByteArray) = x := by
  apply ByteArray.ext
  simp [ByteArray.data_append]

theorem quoteS_size (s : ByteArray) (h : rightL s.data.toList = true) : (quoteS s).size ≤ 1532 := by
  obtain ⟨h255, hv⟩ := right_size h
  have hl : s.data.toList.length = s.size := by simp
  cases hb : bareL s.data.toList with
  | true =>
    have hq : quoteS s = s := by unfold quoteS; rw [h, hb]; rfl
    rw [hq]; omega
  | false =>
    have hq : quoteS s = ⟨(quoteL s.data.toList).toArray⟩ := by unfold quoteS; rw [h, hb]; rfl
    have := quoteL_le s.data.toList
    rw [hq]
    show (quoteL s.data.toList).toArray.size ≤ 1532
    rw [List.size_toArray]
    omega

/-- ████ What is written is read as the same. -/
theorem unq_quote (s : ByteArray) (h : rightL s.data.toList = true) : unqV (quoteS s) = .tuple #[.string s, .int .i64 0, .int .i64 0] := by
  obtain ⟨h255, hv⟩ := right_size h
  have hl : s.data.toList.length = s.size := by simp
  cases hb : bareL s.data.toList with
  | true =>
    have hq : quoteS s = s := by unfold quoteS; rw [h, hb]; rfl
    have hsc := (scan_bare_app s ⟨#[]⟩ hb (by simp)).1
    rw [ba_nil] at hsc
    rw [hq]
    unfold unqV
    rw [if_neg (by omega), hsc, if_neg (by simp), if_neg (by simp)]
  | false =>
    have hq : quoteS s = ⟨(quoteL s.data.toList).toArray⟩ := by unfold quoteS; rw [h, hb]; rfl
    have hsc := scan_quote_app s.data.toList ⟨#[]⟩ hv
    rw [ba_nil] at hsc
    have hle := quoteL_le s.data.toList
    have hsz : (quoteS s).size = (quoteL s.data.toList).length := by rw [hq]; rfl
    have hR : scanR (quoteS s) 0 = (s.data.toList, (quoteL s.data.toList).length, 0) := by
      unfold scanR
      rw [hq, if_pos hsc.2, hsc.1]
      unfold qRes
      dsimp only
      rw [if_neg (by simp; omega)]
    unfold unqV
    rw [if_neg (by omega), hR, if_neg (by simp), if_neg (by simp only; omega)]

theorem scanR_right (s : ByteArray) (pos : Nat) (h : (scanR s pos).2.2 = 0) : rightL (scanR s pos).1 = true := by
  unfold scanR at h ⊢
  split
  · rename_i hc
    rw [if_pos hc] at h
    cases hR : quotedR s pos with
    | none => rw [hR] at h; cases h
    | some p =>
      obtain ⟨o, bad, j⟩ := p
      rw [hR] at h
      unfold qRes at h ⊢
      dsimp only at h ⊢
      by_cases hb : bad = true ∨ 255 < o.length
      · rw [if_pos hb] at h; cases h
      · rw [if_neg hb]
        have hv := quotedN_valid _ _ _ _ _ Lib.validD_nil _ _ _ hR
        show (decide (o.length ≤ 255) && validD o) = true
        rw [hv, decide_eq_true (by omega)]
        rfl
  · rename_i hc
    rw [if_neg hc] at h
    split
    · rename_i h1; rw [if_pos h1] at h; cases h
    · rename_i h1
      rw [if_neg h1] at h
      split
      · rename_i h2; rw [if_pos h2] at h; cases h
      · rename_i h2
        have hlen : ((s.data.toList.drop pos).take (runTo (s.data.toList.drop pos))).length ≤ 255 := by
          rw [List.length_take]; omega
        unfold rightL
        rw [decide_eq_true hlen, valid_asc _ ?_]
        · rfl
        · intro x hx
          have := inside_ascii (take_run _ x hx)
          omega

/-- What Unquote answers: nothing and an error, or a right atom. -/
theorem unqV_cases (s : ByteArray) : (∃ e n : Nat, e ≠ 0 ∧ unqV s = .tuple #[.string ⟨#[]⟩, .int .i64 e, .int .i64 n]) ∨ (∃ a : ByteArray, rightL a.data.toList = true ∧ a.size ≤ 255 ∧ unqV s = .tuple #[.string a, .int .i64 0, .int .i64 0]) := by
  unfold unqV
  split
  · exact .inl ⟨4, 0, by omega, rfl⟩
  · split
    · rename_i h
      exact .inl ⟨_, 0, h, rfl⟩
    · rename_i h
      split
      · exact .inl ⟨63, _, by omega, rfl⟩
      · have h0 : (scanR s 0).2.2 = 0 := by omega
        have hr := scanR_right s 0 h0
        exact .inr ⟨⟨(scanR s 0).1.toArray⟩, hr, (right_size (s := ⟨(scanR s 0).1.toArray⟩) hr).1, rfl⟩

set_option maxHeartbeats 3200000 in
set_option maxRecDepth 100000 in
theorem atomAgain_walk (s : ByteArray) (hs : s.size ≤ maxLen) (w : World) (hT : Lib.Utf8Tabs 0 1 w) (hT2 : Tz16 w) : Calls Tryd.prog 7 #[.string s] w fun e w' => e = .returned (.bool true) ∧ Below w.heap.size w w' := by
  have HT := Lib.hid hT
  have HT2 := Lib.hid hT2
  have HU1 := Lib.hid (unquote_any s w hs hT)
  rcases unqV_cases s with ⟨e0, n, he0, hu⟩ | ⟨a, hra, ha255, hu⟩
  · have HU := Lib.hid hu
    have ez : ((e0 : Int) == 0) = false := by simp; omega
    have ez2 : ((e0 : Int) != 0) = true := by simp; omega
    clear hT hT2 hu he0
    go_enter Tryd.func7, Tryd.ntmps7
    go_wp2_with fail
    refine (HU1.out).mono ?_
    rintro e w1 ⟨rfl, hb1⟩
    rw [HU.out]
    go_wp2_with fail
    refine (awake_any _).mono ?_
    rintro e w2 ⟨rfl, hb2⟩
    go_wp2_with fail
    go_ret
    exact ⟨rfl, hb1.trans (hb2.mono hb1.size)⟩
  · have HU := Lib.hid hu
    obtain ⟨q, hq⟩ : ∃ q, quoteS a = q := ⟨_, rfl⟩
    have hqs : q.size ≤ maxLen := by
      have := quoteS_size a hra
      rw [hq] at this
      unfold maxLen
      omega
    have hback := unq_quote a hra
    rw [hq] at hback
    have HQ := Lib.hid hq
    have HBK := Lib.hid hback
    have HRN : Hid (rightN a.data.toList = 0) := Lib.hid (by unfold rightN; rw [hra]; rfl)
    clear hT hT2 hu hq hback
    go_enter Tryd.func7, Tryd.ntmps7
    go_wp2_with fail
    refine (HU1.out).mono ?_
    rintro e w1 ⟨rfl, hb1⟩
    rw [HU.out]
    go_wp2_with fail
    refine (quote_any a _ (by unfold maxLen; omega) (tabs_below HT.out (Nat.le_refl _) hb1) (tz_below HT2.out (Nat.le_refl _) hb1)).mono ?_
    rintro e w2 ⟨rfl, hb2⟩
    rw [HQ.out, HRN.out]
    have hbw2 := hb1.trans (hb2.mono hb1.size)
    clear hb2
    go_wp2_with fail
    refine (unquote_any q _ hqs (tabs_below HT.out (Nat.le_refl _) hbw2)).mono ?_
    rintro e w3 ⟨rfl, hb3⟩
    rw [HBK.out]
    have hbw3 := hbw2.trans (hb3.mono hbw2.size)
    clear hb3
    go_wp2_with fail
    refine (awake_any _).mono ?_
    rintro e w4 ⟨rfl, hb4⟩
    go_wp2_with fail
    go_ret
    exact ⟨rfl, hbw3.trans (hb4.mono hbw3.size)⟩
end Go.Proofs.YtflbcijmfcmilaaDoor
