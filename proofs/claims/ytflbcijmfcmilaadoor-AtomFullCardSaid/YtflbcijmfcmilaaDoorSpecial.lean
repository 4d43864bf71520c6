/- What stands behind a backslash. -/
import Derived.Test.YtflbcijmfcmilaaDoorCtrl
namespace Go.Proofs.YtflbcijmfcmilaaDoor
open Go.RowKit
open Go.Lib (decodeL encodeRune)

theorem tabs_keep {b : Nat} {w w' : World} (h : Lib.Utf8Tabs 0 1 w) (hb1 : 1 < b) (hb : Below b w w') : Lib.Utf8Tabs 0 1 w' := by
  refine ⟨fun c hc => ?_, fun i hi => ⟨?_, ?_⟩⟩
  · rw [hb.cell (by show 0 < b; omega)]
    exact h.1 c hc
  · rw [hb.cell (by show 1 < b; omega)]
    exact (h.2 i hi).1
  · rw [hb.cell (by show 1 < b; omega)]
    exact (h.2 i hi).2

theorem ext_drop (s : ByteArray) (pos : Nat) : (s.extract pos s.size) = ⟨(s.data.toList.drop pos).toArray⟩ := by
  apply ByteArray.ext
  apply Array.toList_inj.1
  rw [Lib.extract_data, List.take_of_length_le (by simp)]

theorem dgo (s : ByteArray) (pos : Nat) : Lib.decodeGo (s.extract pos s.size) = if pos < s.size then decodeL (s.data.toList.drop pos) else (65533, 0) := by
  unfold Lib.decodeGo
  have hsz : (s.extract pos s.size).size = s.size - pos := by simp
  rw [hsz]
  by_cases h : pos < s.size
  · rw [if_neg (by omega), if_pos h, ext_drop]
    rfl
  · rw [if_pos (by omega), if_neg h]

theorem map_if {α β : Type} {p : Prop} [Decidable p] (f : α → β) (x y : Option α) : (if p then x else y).map f = if p then x.map f else y.map f := by split <;> rfl

theorem esc_x (t : List UInt8) : escapeL (120 :: t) = (hexO t).map fun p => (p.1, p.2 + 1) := by
  unfold escapeL hexO
  dsimp only
  rw [if_pos rfl]
  cases t with
  | nil => rfl
  | cons c u =>
    by_cases hc : c = 123
    · subst hc
      show (if _ then none else _) = Option.map _ (if _ then none else _)
      rw [map_if, map_if]
      rfl
    · have e1 : (match c :: u with
        | 123 :: u => if (readNum 16 u.length u 0).2 = 0 then none else if u[(readNum 16 u.length u 0).2]? = some 125 then some ((readNum 16 u.length u 0).1, (readNum 16 u.length u 0).2 + 3) else none
        | _ => if (readNum 16 2 (c :: u) 0).2 = 2 then some ((readNum 16 2 (c :: u) 0).1, 3) else none) = if (readNum 16 2 (c :: u) 0).2 = 2 then some ((readNum 16 2 (c :: u) 0).1, 3) else none := by
        split
        · rename_i h
          exact absurd (List.cons.inj h).1 hc
        · rfl
      have e2 : (match c :: u with
        | 123 :: u => if (readNum 16 u.length u 0).2 = 0 then none else if u[(readNum 16 u.length u 0).2]? = some 125 then some ((readNum 16 u.length u 0).1, (readNum 16 u.length u 0).2 + 2) else none
        | _ => if (readNum 16 2 (c :: u) 0).2 = 2 then some ((readNum 16 2 (c :: u) 0).1, 2) else none) = if (readNum 16 2 (c :: u) 0).2 = 2 then some ((readNum 16 2 (c :: u) 0).1, 2) else none := by
        split
        · rename_i h
          exact absurd (List.cons.inj h).1 hc
        · rfl
      exact e1.trans ((by rw [map_if]; rfl : _ = Option.map (fun p : Nat × Nat => (p.1, p.2 + 1)) (if (readNum 16 2 (c :: u) 0).2 = 2 then some ((readNum 16 2 (c :: u) 0).1, 2) else none)).trans (congrArg _ e2.symm))

theorem esc_c (t : List UInt8) : escapeL (94 :: t) = (ctrlO t).map fun p => (p.1, p.2 + 1) := by
  unfold escapeL ctrlO
  dsimp only
  rw [if_neg (by decide), if_pos rfl]
  cases t with
  | nil => rfl
  | cons d u =>
    dsimp only
    rw [Option.map_map]
    rfl

theorem esc_d (c : UInt8) (t : List UInt8) (h1 : 48 ≤ c.toNat) (h2 : c.toNat ≤ 55) : escapeL (c :: t) = some (readNum 8 3 (c :: t) 0) := by
  have e1 : c ≠ 120 := by rintro rfl; exact absurd h2 (by decide)
  have e2 : c ≠ 94 := by rintro rfl; exact absurd h2 (by decide)
  unfold escapeL
  dsimp only
  rw [if_neg e1, if_neg e2, if_pos ⟨h1, h2⟩]

theorem esc_n (c : UInt8) (t : List UInt8) (h1 : c ≠ 120) (h2 : c ≠ 94) (h3 : ¬ (48 ≤ c.toNat ∧ c.toNat ≤ 55)) : escapeL (c :: t) = match unescF c.toNat with
    | some v => some (v, 1)
    | none => if badD (decodeL (c :: t)) then none else some (decodeL (c :: t)) := by
  unfold escapeL
  dsimp only
  rw [if_neg h1, if_neg h2, if_neg h3]
  rfl

theorem EPost.shift {b : Nat} {s : ByteArray} {pos k : Nat} {bs : List Value} {bad : Bool} {o : Option (Nat × Nat)} {w w3 w4 : World} {e : Ending} (h : EPost b s (pos + k) bs bad o w3 e w4) (hb : Below b w w3) : EPost b s pos bs bad (o.map fun p => (p.1, p.2 + k)) w e w4 := by
  obtain ⟨h1, h2⟩ := h
  refine ⟨hb.trans h1, ?_⟩
  cases o with
  | none => exact h2
  | some p =>
    obtain ⟨h3, h4, h5⟩ := h2
    refine ⟨h3, by show pos + (p.2 + k) ≤ s.size; omega, ?_⟩
    show Rdr b s (pos + (p.2 + k)) _ _ w4
    rw [show pos + (p.2 + k) = pos + k + p.2 by omega]
    exact h5

theorem EPost.of_rune {b : Nat} {s : ByteArray} {pos k v : Nat} {bs : List Value} {bad : Bool} {w w3 w4 : World} (hok : okRune v = true) (hk : pos + k ≤ s.size) (hp : RPost b s (pos + k) (bs ++ Lib.runeCells v) bad w3 w4) (hb : Below b w w3) : EPost b s pos bs bad (some (v, k)) w (.returned (.bool true)) w4 := by
  refine ⟨hb.trans hp.2, rfl, hk, ?_⟩
  rw [if_pos hok, if_pos hok]
  exact hp.1

theorem EPost.of_digits {b : Nat} {s : ByteArray} {pos r j : Nat} {bs : List Value} {bad : Bool} {w w3 w4 : World} {e : Ending} (hj : 1 ≤ j) (h : DPost b s pos bs bad 1 r j w3 e w4) (hb : Below b w w3) : EPost b s pos bs bad (some (r, j)) w e w4 := by
  obtain ⟨h1, h2, h3, h4⟩ := h
  refine ⟨hb.trans h3, ?_, h2, (h4 hj).1⟩
  rw [h1, decide_eq_true hj]

theorem unesc_ok {c v : Nat} (h : unescF c = some v) : okRune v = true ∧ c < 128 := by
  unfold unescF at h
  repeat' (split at h; · (cases h; refine ⟨by decide, by omega⟩))
  cases h

theorem bad_high {c : UInt8} {t : List UInt8} (h : badD (decodeL (c :: t)) = true) : 128 ≤ c.toNat := by
  rcases Nat.lt_or_ge c.toNat 128 with h' | h'
  · rw [Lib.decodeL_ascii c t h'] at h
    have : c.toNat = 65533 := by simpa [badD] using h
    omega
  · exact h'

theorem rune_high {c : UInt8} {t : List UInt8} (hc : 128 ≤ c.toNat) (h : badD (decodeL (c :: t)) = false) : 128 ≤ (decodeL (c :: t)).1 ∧ 2 ≤ (decodeL (c :: t)).2 := by
  have h' : ¬ ((decodeL (c :: t)).1 = 65533 ∧ (decodeL (c :: t)).2 = 1) := by simpa [badD] using h
  rw [Lib.decodeL_N] at h' ⊢
  have e0 : ((c :: t).getD 0 0).toNat = c.toNat := rfl
  rcases Lib.decodeN_shape (c :: t).length ((c :: t).getD 0 0).toNat ((c :: t).getD 1 0).toNat ((c :: t).getD 2 0).toNat ((c :: t).getD 3 0).toNat with ⟨c', e⟩ | ⟨c1, c2, c3, cv, e⟩ | ⟨c1, c2, c3, c4, cv, cs, e⟩ | ⟨c1, c2, c3, c4, c5, cv, cw, e⟩ | e
  all_goals (rw [e] at h' ⊢; dsimp only at h' ⊢)
  · rw [e0] at c'; omega
  · omega
  · omega
  · omega
  · exact absurd ⟨rfl, rfl⟩ h'

set_option maxHeartbeats 3200000 in
set_option maxRecDepth 100000 in
theorem special_any (b : Nat) (s : ByteArray) (pos : Nat) (bs : List Value) (bad : Bool) (hs : s.size ≤ maxLen) (hp : pos ≤ s.size) (w : World) (h : Rdr b s pos bs bad w) (hlen : bs.length + 4 ≤ 140737488355328) (hT : Lib.Utf8Tabs 0 1 w) (hb1 : 1 < b) :
    Calls Tryd.prog 61 #[.pointer (some ⟨b, 0, none⟩)] w (EPost b s pos bs bad (escapeL (s.data.toList.drop pos)) w) := by
  have hs' := hs
  unfold maxLen at hs'
  have c0 := h.c0
  have c1 := h.c1
  obtain ⟨r, k, hrk⟩ : ∃ r k, Lib.decodeGo (s.extract pos s.size) = (r, k) := ⟨_, _, rfl⟩
  have HDEC : Hid (∀ w', Lib.Utf8Tabs 0 1 w' → Calls Tryd.prog 60 #[.string (s.extract pos s.size)] w' fun e w2 => e = .returned (.tuple #[.int .i32 r, .int .i64 k]) ∧ Below w'.heap.size w' w2) := Lib.hid fun w' h' => by
    have := Tryd.utf8_DecodeRuneInString (s.extract pos s.size) w' h'
    rw [hrk] at this
    exact this
  have hps : (pos : Int) ≤ (s.size : Int) := by omega
  have hp0 : (0 : Int) ≤ (pos : Int) := by omega
  have HRK := Lib.hid hrk
  have HT := Lib.hid hT
  clear hrk hT
  go_enter Tryd.func61, Tryd.ntmps61
  go_wp2_with fail
  have d0 : w.drew.cell? ⟨b, 0, none⟩ = some (.string s) := c0
  have d1 : w.drew.cell? ⟨b, 1, none⟩ = some (.int .i64 pos) := c1
  have hr1 : Rdr b s pos bs bad w.drew := h.drewN 1
  have hbl1 : Below b w w.drew := Below.drew (Below.refl b w)
  have HT1 : Hid (Lib.Utf8Tabs 0 1 w.drew) := Lib.hid (tabs_keep HT.out hb1 hbl1)
  refine wp_region_seq [] [(0, true), (1, true), (2, true), (3, true), (4, true), (5, true), (6, true), (7, true), (8, true), (9, false), (10, true), (11, true), (12, true), (13, true), (14, true)]
    Tryd.lays169.mixed (by kernel_rfl) (by kernel_rfl) (fun c a d v w h => by cases d <;> exact h) ?_
  generalize w.drew = w1 at d0 d1 hr1 hbl1 HT1 ⊢
  clear c0 c1 h
  refine seqP_held (fun W => W.cell? ⟨b, 0, none⟩ = some (.string s) ∧ W.cell? ⟨b, 1, none⟩ = some (.int .i64 pos)) ⟨d0, d1⟩ ?_
  refine seqH_take (o := ⟨some 8, _, _, _, _, none⟩) _ rfl (by rfl) (fun W hW => by (obtain ⟨e1, e2⟩ := hW; go_simp; with_reducible rfl)) ?_
  simp only [Act.put, List.setIfInBounds_toArray, List.set_cons_zero, List.set_cons_succ]
  refine seqH_take (o := ⟨some 9, _, _, _, _, none⟩) _ rfl (by rfl) (fun W hW => by (obtain ⟨e1, e2⟩ := hW; go_simp; with_reducible rfl)) ?_
  simp only [Act.put, List.setIfInBounds_toArray, List.set_cons_zero, List.set_cons_succ]
  refine seqH_take (o := ⟨some 10, _, _, _, _, none⟩) _ rfl (by rfl) (fun W hW => by (obtain ⟨e1, e2⟩ := hW; go_simp; with_reducible rfl)) ?_
  simp only [Act.put, List.setIfInBounds_toArray, List.set_cons_zero, List.set_cons_succ]
  refine seqH_take (o := ⟨some 11, _, _, _, _, none⟩) _ rfl (by rfl) (fun W hW => by (obtain ⟨e1, e2⟩ := hW; go_simp; with_reducible rfl)) ?_
  simp only [Act.put, List.setIfInBounds_toArray, List.set_cons_zero, List.set_cons_succ]
  refine seqH_take (o := ⟨some 12, _, _, _, _, none⟩) _ rfl (by rfl) (fun W hW => by (obtain ⟨e1, e2⟩ := hW; go_simp; with_reducible rfl)) ?_
  simp only [Act.put, List.setIfInBounds_toArray, List.set_cons_zero, List.set_cons_succ]
  refine seqH_take (o := ⟨some 13, _, _, _, _, none⟩) _ rfl (by rfl) (fun W hW => by (obtain ⟨e1, e2⟩ := hW; go_simp; with_reducible rfl)) ?_
  simp only [Act.put, List.setIfInBounds_toArray, List.set_cons_zero, List.set_cons_succ]
  refine seqH_take (o := ⟨some 14, _, _, _, _, none⟩) _ rfl (by rfl) (fun W hW => by (obtain ⟨e1, e2⟩ := hW; go_simp; with_reducible rfl)) ?_
  simp only [Act.put, List.setIfInBounds_toArray, List.set_cons_zero, List.set_cons_succ]
  refine seqH_take (o := ⟨some 15, _, _, _, _, none⟩) _ rfl (by rfl) (fun W hW => by (obtain ⟨e1, e2⟩ := hW; go_simp; with_reducible rfl)) ?_
  simp only [Act.put, List.setIfInBounds_toArray, List.set_cons_zero, List.set_cons_succ]
  refine seqH_take (o := ⟨some 16, _, _, _, _, none⟩) _ rfl (by rfl) (fun W hW => by (obtain ⟨e1, e2⟩ := hW; go_simp; with_reducible rfl)) ?_
  simp only [Act.put, List.setIfInBounds_toArray, List.set_cons_zero, List.set_cons_succ]
  refine seqH_call (o := ⟨some 17, _, _, _, _, none⟩) rfl (by rfl) (fun K hK => ?_)
  go_simp
  refine (HDEC.out _ HT1.out).mono ?_
  rintro e w2 ⟨rfl, hb2⟩
  have hr2 := hr1.below hb2
  have hbl2 : Below b w w2 := hbl1.trans (hb2.mono (by have := hr1.lt; omega))
  refine hK _ _ ⟨hr2.c0, hr2.c1⟩ ?_
  clear d0 d1 hr1 hbl1 hb2 HT1 HDEC hK K
  refine seqH_take (o := ⟨some 7, _, _, _, _, none⟩) _ rfl (by rfl) (fun W hW => by (obtain ⟨e1, e2⟩ := hW; go_simp; with_reducible rfl)) ?_
  simp only [Act.put, List.setIfInBounds_toArray, List.set_cons_zero, List.set_cons_succ]
  refine seqH_take (o := ⟨some 18, _, _, _, _, none⟩) _ rfl (by rfl) (fun W hW => by (obtain ⟨e1, e2⟩ := hW; go_simp; with_reducible rfl)) ?_
  simp only [Act.put, List.setIfInBounds_toArray, List.set_cons_zero, List.set_cons_succ]
  refine seqH_take (o := ⟨some 19, _, _, _, _, none⟩) _ rfl (by rfl) (fun W hW => by (obtain ⟨e1, e2⟩ := hW; go_simp; with_reducible rfl)) ?_
  simp only [Act.put, List.setIfInBounds_toArray, List.set_cons_zero, List.set_cons_succ]
  refine seqH_take (o := ⟨some 3, _, _, _, _, none⟩) _ rfl (by rfl) (fun W hW => by (obtain ⟨e1, e2⟩ := hW; go_simp; with_reducible rfl)) ?_
  simp only [Act.put, List.setIfInBounds_toArray, List.set_cons_zero, List.set_cons_succ]
  refine seqH_take (o := ⟨some 4, _, _, _, _, none⟩) _ rfl (by rfl) (fun W hW => by (obtain ⟨e1, e2⟩ := hW; go_simp; with_reducible rfl)) ?_
  simp only [Act.put, List.setIfInBounds_toArray, List.set_cons_zero, List.set_cons_succ]
  refine seqH_nil ?_
  have c1 := hr2.c1
  have f1 := hr2.free 1
  have HSET : Hid (∀ (m : Nat) (z : Int), z = (pos : Int) + m → Rdr b s (pos + m) bs bad (w2.setCell ⟨b, 1, none⟩ (.int .i64 z))) := Lib.hid (by
    rintro m z rfl
    have := hr2.setPos (pos + m)
    rwa [show (((pos + m : Nat) : Int)) = (pos : Int) + m by omega] at this)
  have HSB : Hid (∀ z : Value, Below b w (w2.setCell ⟨b, 1, none⟩ z)) := Lib.hid fun z => hbl2.setCell (p := ⟨b, 1, none⟩) (Nat.le_refl _) z
  have HB2 := Lib.hid hbl2
  have HR2 := Lib.hid hr2
  clear hbl2 hr2
  by_cases hlt : pos < s.size
  · have hdg := HRK.out
    rw [dgo, if_pos hlt, drop_at hlt] at hdg
    obtain ⟨c, hc⟩ : ∃ c, s[pos]'hlt = c := ⟨_, rfl⟩
    obtain ⟨t, ht⟩ : ∃ t, s.data.toList.drop (pos + 1) = t := ⟨_, rfl⟩
    have hdr : s.data.toList.drop pos = c :: t := by rw [drop_at hlt, hc, ht]
    rw [hc, ht] at hdg
    have hkle : pos + k ≤ s.size := by
      have h1 := Lib.decodeL_le (c :: t) (by simp)
      rw [hdg] at h1
      have h2 : (c :: t).length = s.size - pos := by rw [← hdr]; simp
      simp only at h1
      omega
    cases hbad : badD (r, k) with
    | true =>
      have hrk : r = 65533 ∧ k = 1 := by simpa [badD] using hbad
      obtain ⟨rfl, rfl⟩ := hrk
      have HF : Hid (escapeL (s.data.toList.drop pos) = none) := Lib.hid (by
        have h128 : 128 ≤ c.toNat := bad_high (by rw [hdg]; exact hbad)
        rw [hdr, esc_n c t (by rintro rfl; exact absurd h128 (by decide)) (by rintro rfl; exact absurd h128 (by decide)) (by omega)]
        cases hu : unescF c.toNat with
        | none => dsimp only; rw [hdg, hbad]; rfl
        | some v => exact absurd (unesc_ok hu).2 (by omega))
      clear hdg hdr hbad hc ht HSET HSB
      go_wp2_with fail
      go_ret
      refine ⟨HB2.out, ?_⟩
      rw [HF.out]
      rfl
    | false =>
      by_cases hasc : c.toNat < 128
      · have hd2 := hdg
        rw [Lib.decodeL_ascii c t hasc] at hd2
        obtain ⟨hrr, hkk⟩ := Prod.mk.inj hd2
        subst hkk
        have HRR := Lib.hid hrr
        have hr128 : r < 128 := by omega
        have e65 : ((r : Int) == 65533) = false := by simp; omega
        have HDG := Lib.hid hdg
        have HDR := Lib.hid hdr
        have HBAD := Lib.hid hbad
        have HTT := Lib.hid ht
        clear hrr hd2 hdg hdr hbad ht hc
        by_cases hx : r = 120
        · subst hx
          have HF : Hid (escapeL (s.data.toList.drop pos) = (hexO (s.data.toList.drop (pos + 1))).map fun p => (p.1, p.2 + 1)) := Lib.hid (by
            rw [HDR.out, HTT.out, show c = 120 from UInt8.toNat.inj HRR.out, esc_x])
          go_wp2_with fail
          refine (hexr_any b s (pos + 1) bs bad hs (by omega) _ (HSET.out 1 _ (by omega)) hlen).mono ?_
          intro e w3 hpost
          have hp2 := hpost.shift (HSB.out _)
          rw [← HF.out] at hp2
          obtain ⟨b', hb'⟩ : ∃ b', e = .returned (.bool b') := by
            obtain ⟨_, h2⟩ := hpost
            cases ho : hexO (s.data.toList.drop (pos + 1)) with
            | none => rw [ho] at h2; exact ⟨_, h2⟩
            | some q => rw [ho] at h2; exact ⟨_, h2.1⟩
          subst hb'
          have HP2 := Lib.hid hp2
          clear hp2 hpost
          go_wp2_with fail
          go_ret
          exact HP2.out
        · have e120 : ((r : Int) == 120) = false := by simp; omega
          by_cases hx2 : r = 94
          · subst hx2
            have HF : Hid (escapeL (s.data.toList.drop pos) = (ctrlO (s.data.toList.drop (pos + 1))).map fun p => (p.1, p.2 + 1)) := Lib.hid (by
              rw [HDR.out, HTT.out, show c = 94 from UInt8.toNat.inj HRR.out, esc_c])
            clear hx e120
            go_wp2_with fail
            refine (control_any b s (pos + 1) bs bad hs (by omega) _ (HSET.out 1 _ (by omega)) hlen).mono ?_
            intro e w3 hpost
            have hp2 := hpost.shift (HSB.out _)
            rw [← HF.out] at hp2
            obtain ⟨b', hb'⟩ : ∃ b', e = .returned (.bool b') := by
              obtain ⟨_, h2⟩ := hpost
              cases ho : ctrlO (s.data.toList.drop (pos + 1)) with
              | none => rw [ho] at h2; exact ⟨_, h2⟩
              | some q => rw [ho] at h2; exact ⟨_, h2.1⟩
            subst hb'
            have HP2 := Lib.hid hp2
            clear hp2 hpost
            go_wp2_with fail
            go_ret
            exact HP2.out
          · have e94 : ((r : Int) == 94) = false := by simp; omega
            by_cases hx3 : 48 ≤ r ∧ r ≤ 55
            · obtain ⟨h48, h55⟩ := hx3
              obtain ⟨v, j, hvj⟩ : ∃ v j, readNum 8 3 (s.data.toList.drop pos) 0 = (v, j) := ⟨_, _, rfl⟩
              have HF : Hid (escapeL (s.data.toList.drop pos) = some (v, j)) := Lib.hid (by
                have := HRR.out
                rw [← hvj, HDR.out, esc_d c t (by omega) (by omega)])
              have hj1 : 1 ≤ j := by
                have h1 := hvj
                have hrc := HRR.out
                rw [HDR.out, readNum_step] at h1
                have hdd : dig c 8 = some (c.toNat - 48) := by
                  unfold dig
                  have : (if 48 ≤ c.toNat ∧ c.toNat ≤ 57 then c.toNat - 48 else if 97 ≤ c.toNat ∧ c.toNat ≤ 102 then c.toNat - 87 else if 65 ≤ c.toNat ∧ c.toNat ≤ 70 then c.toNat - 55 else 99) = c.toNat - 48 := by
                    rw [if_pos (by omega)]
                  simp only [this]
                  rw [if_pos (by omega)]
                rw [hdd] at h1
                have := congrArg Prod.snd h1
                simp only at this
                omega
              have hdig := digits_any b s pos bs bad 8 1 3 v j (.inl rfl) (by omega) (by unfold maxLen; omega) hs hp w2 HR2.out hlen hvj
              have HDIG := Lib.hid hdig
              clear hdig hvj hx hx2
              go_wp2_with fail
              refine (HDIG.out).mono ?_
              intro e w3 hpost
              have hp2 := EPost.of_digits hj1 hpost HB2.out
              rw [← HF.out] at hp2
              have he : e = .returned (.bool true) := by rw [hpost.1, decide_eq_true hj1]
              subst he
              have HP2 := Lib.hid hp2
              clear hp2 hpost
              go_wp2_with fail
              go_ret
              exact HP2.out
            · have HF : Hid (escapeL (s.data.toList.drop pos) = match unescF r with
                  | some v => some (v, 1)
                  | none => some (r, 1)) := Lib.hid (by
                have hrc := HRR.out
                rw [HDR.out, esc_n c t (by rintro rfl; exact hx hrc.symm) (by rintro rfl; exact hx2 hrc.symm) (by rw [hrc]; exact hx3), HDG.out, HBAD.out, hrc]
                rfl)
              have h3 : r < 48 ∨ 55 < r := by omega
              have hw8 : IntKind.u8.wrap (r : Int) = (r : Int) := IntWalk.u8_in _ (by omega)
              have hokr : okRune r = true := by unfold okRune; simp; omega
              have HOK := Lib.hid hokr
              clear hx hx2 hx3 hokr
              cases hu : unescF r with
              | none =>
                have HU : Hid (unescV r = .tuple #[.int .i32 0, .bool false]) := Lib.hid (by unfold unescV; rw [hu])
                have HG : Hid (escapeL (s.data.toList.drop pos) = some (r, 1)) := Lib.hid (by rw [HF.out, hu])
                clear hu HF
                rcases h3 with h3 | h3
                all_goals
                  go_wp2_with fail
                  refine (unescape_any r (by omega) _).mono ?_
                  rintro e w3 ⟨rfl, rfl⟩
                  rw [HU.out]
                  go_wp2_with fail
                  refine (rd_rune b s (pos + 1) bs bad r (by omega) (by omega) _ (HSET.out 1 _ (by omega)) hlen).mono ?_
                  rintro e w4 ⟨rfl, hpost⟩
                  have hp2 := EPost.of_rune HOK.out hkle hpost (HSB.out _)
                  rw [← HG.out] at hp2
                  have HP2 := Lib.hid hp2
                  clear hp2 hpost
                  go_wp2_with fail
                  go_ret
                  exact HP2.out
              | some v =>
                have HU : Hid (unescV r = .tuple #[.int .i32 v, .bool true]) := Lib.hid (by unfold unescV; rw [hu])
                have HG : Hid (escapeL (s.data.toList.drop pos) = some (v, 1)) := Lib.hid (by rw [HF.out, hu])
                have HOV := Lib.hid (unesc_ok hu).1
                have hv128 : v ≤ 1114111 := by
                  have : v < 55296 ∨ (57344 ≤ v ∧ v ≤ 1114111) := by simpa [okRune] using (unesc_ok hu).1
                  omega
                clear hu HF
                rcases h3 with h3 | h3
                all_goals
                  go_wp2_with fail
                  refine (unescape_any r (by omega) _).mono ?_
                  rintro e w3 ⟨rfl, rfl⟩
                  rw [HU.out]
                  go_wp2_with fail
                  refine (rd_rune b s (pos + 1) bs bad v (by omega) (by omega) _ (HSET.out 1 _ (by omega)) hlen).mono ?_
                  rintro e w4 ⟨rfl, hpost⟩
                  have hp2 := EPost.of_rune HOV.out hkle hpost (HSB.out _)
                  rw [← HG.out] at hp2
                  have HP2 := Lib.hid hp2
                  clear hp2 hpost
                  go_wp2_with fail
                  go_ret
                  exact HP2.out
      · have h128 : 128 ≤ c.toNat := by omega
        have hhigh := rune_high (c := c) (t := t) h128 (by rw [hdg]; exact hbad)
        rw [hdg] at hhigh
        obtain ⟨hr1, hk2⟩ := hhigh
        simp only at hr1 hk2
        have hok : okRune r = true := by
          have := decode_ok (c :: t) (by rw [hdg]; exact hbad)
          rwa [hdg] at this
        have hrle : r ≤ 1114111 := by
          have : r < 55296 ∨ (57344 ≤ r ∧ r ≤ 1114111) := by simpa [okRune] using hok
          omega
        have HF : Hid (escapeL (s.data.toList.drop pos) = some (r, k)) := Lib.hid (by
          rw [hdr, esc_n c t (by rintro rfl; exact absurd h128 (by decide)) (by rintro rfl; exact absurd h128 (by decide)) (by omega)]
          cases hu : unescF c.toNat with
          | none => dsimp only; rw [hdg, hbad]; rfl
          | some v => exact absurd (unesc_ok hu).2 (by omega))
        have HOK := Lib.hid hok
        have e120 : ((r : Int) == 120) = false := by simp; omega
        have e94 : ((r : Int) == 94) = false := by simp; omega
        have ek1 : ((k : Int) == 1) = false := by simp; omega
        have h55 : 55 < r := by omega
        clear hdg hdr hbad hc ht hok hasc h128
        by_cases hr65 : r = 65533
        · subst hr65
          clear e120 e94
          go_wp2_with fail
          refine (rd_rune b s (pos + k) bs bad 65533 (by omega) (by omega) _ (HSET.out k _ (by omega)) hlen).mono ?_
          rintro e w4 ⟨rfl, hpost⟩
          have hp2 := EPost.of_rune (v := 65533) HOK.out hkle hpost (HSB.out _)
          rw [← HF.out] at hp2
          have HP2 := Lib.hid hp2
          clear hp2 hpost
          go_wp2_with fail
          go_ret
          exact HP2.out
        · have e65 : ((r : Int) == 65533) = false := by simp; omega
          clear hr65
          go_wp2_with fail
          refine (rd_rune b s (pos + k) bs bad r (by omega) (by omega) _ (HSET.out k _ (by omega)) hlen).mono ?_
          rintro e w4 ⟨rfl, hpost⟩
          have hp2 := EPost.of_rune HOK.out hkle hpost (HSB.out _)
          rw [← HF.out] at hp2
          have HP2 := Lib.hid hp2
          clear hp2 hpost
          go_wp2_with fail
          go_ret
          exact HP2.out
  · have hdg := HRK.out
    rw [dgo, if_neg hlt] at hdg
    obtain ⟨rfl, rfl⟩ := Prod.mk.inj hdg
    have HF : Hid (escapeL (s.data.toList.drop pos) = none) := Lib.hid (by rw [drop_end (by omega)]; rfl)
    clear hdg HSET HSB
    go_wp2_with fail
    go_ret
    refine ⟨HB2.out, ?_⟩
    rw [HF.out]
    rfl
end Go.Proofs.YtflbcijmfcmilaaDoor
