/- The reader: an atom in quotes, behind the first one. -/
import Derived.Test.YtflbcijmfcmilaaDoorSpecial
namespace Go.Proofs.YtflbcijmfcmilaaDoor
open Go.RowKit
open Go.Lib (decodeL encodeRune)

theorem quotedN_grow : ∀ (n : Nat) (l out : List UInt8) (bad : Bool) (k : Nat) o b j, quotedN n l out bad k = some (o, b, j) → out.length ≤ o.length := by
  intro n
  induction n with
  | zero => intro l out bad k o b j h; simp [quotedN] at h
  | succ n ih =>
    intro l out bad k o b j h
    cases l with
    | nil => simp [quotedN] at h
    | cons c t =>
      simp only [quotedN] at h
      split at h
      · simp at h; rw [← h.1]; exact Nat.le_refl _
      · split at h
        · split at h
          · cases h
          · split at h
            · have := ih _ _ _ _ _ _ _ h
              rw [List.length_append] at this
              omega
            · exact ih _ _ _ _ _ _ _ h
        · split at h
          · cases h
          · have := ih _ _ _ _ _ _ _ h
            rw [List.length_append] at this
            omega

/-- What the reader leaves. -/
def QPost (b : Nat) (s : ByteArray) (R : Option (List UInt8 × Bool × Nat)) (w : World) (e : Ending) (w' : World) : Prop :=
  Below b w w' ∧ match R with
    | none => e = .returned (.bool false)
    | some (o, bad, j) => e = .returned (.bool true) ∧ Rdr b s j (Lib.byteCells o) bad w'

theorem qstep_quote (n : Nat) (t out : List UInt8) (bad : Bool) (k : Nat) : quotedN (n + 1) (39 :: t) out bad k = some (out, bad, k + 1) := by
  simp only [quotedN, if_true]
theorem qstep_esc (n : Nat) (t out : List UInt8) (bad : Bool) (k : Nat) : quotedN (n + 1) (92 :: t) out bad k = match escapeL t with
    | none => none
    | some (v, j) => if okRune v then quotedN n (t.drop j) (out ++ encodeRune (v : Int)) bad (k + 1 + j) else quotedN n (t.drop j) out true (k + 1 + j) := by
  simp only [quotedN]
  rw [if_neg (by decide), if_pos trivial]
  rfl
theorem qstep_rune (n : Nat) (c : UInt8) (t out : List UInt8) (bad : Bool) (k : Nat) (h1 : c ≠ 39) (h2 : c ≠ 92) : quotedN (n + 1) (c :: t) out bad k = if badD (decodeL (c :: t)) then none else quotedN n ((c :: t).drop (decodeL (c :: t)).2) (out ++ encodeRune ((decodeL (c :: t)).1 : Int)) bad (k + (decodeL (c :: t)).2) := by
  simp only [quotedN]
  rw [if_neg h1, if_neg h2]
theorem qstep_nil (n : Nat) (out : List UInt8) (bad : Bool) (k : Nat) : quotedN n [] out bad k = none := by cases n <;> rfl

set_option maxHeartbeats 6400000 in
set_option maxRecDepth 100000 in
theorem quoted_any (b : Nat) (s : ByteArray) (pos : Nat) (bad : Bool) (n : Nat) (R : Option (List UInt8 × Bool × Nat)) (hR : R = quotedN n (s.data.toList.drop pos) [] bad pos) (hn : s.size - pos < n)
    (hbnd : s.size ≤ 1099511627776 ∨ ∃ o b' j, R = some (o, b', j) ∧ o.length ≤ 1099511627776)
    (hs : s.size ≤ maxLen) (hp : pos ≤ s.size) (w : World) (h : Rdr b s pos [] bad w) (hT : Lib.Utf8Tabs 0 1 w) (hb1 : 1 < b) :
    Calls Tryd.prog 47 #[.pointer (some ⟨b, 0, none⟩)] w (QPost b s R w) := by
  have hs' := hs
  unfold maxLen at hs'
  have HT := Lib.hid hT
  have HR := Lib.hid hR
  have HBND := Lib.hid hbnd
  clear hT hR hbnd
  go_enter Tryd.func47, Tryd.ntmps47
  go_wp2_with fail
  go_loopg [3, 4] s.size (fun g s3 s4 wr => ∃ (pos : Nat) (out : List UInt8) (bad : Bool) (n : Nat), pos ≤ s.size ∧ s.size - pos ≤ g ∧ s.size - pos < n ∧ out.length ≤ 4 * pos ∧ Rdr b s pos (Lib.byteCells out) bad wr ∧ Below b w wr ∧ Hid (R = quotedN n (s.data.toList.drop pos) out bad pos))
  case atStart => exact ⟨pos, [], bad, n, hp, by omega, hn, by simp, h, Below.refl _ _, HR⟩
  case round =>
    clear h HR hn hp
    obtain ⟨pos, out, bad, n, hg, hgg, hgn, hol, h, hB, hI⟩ := hrel
    have c0 := h.c0
    have c1 := h.c1
    by_cases hlt : pos < s.size
    · obtain ⟨n, rfl⟩ : ∃ m, n = m + 1 := ⟨n - 1, by omega⟩
      obtain ⟨r, k, hrk⟩ : ∃ r k, Lib.decodeGo (s.extract pos s.size) = (r, k) := ⟨_, _, rfl⟩
      have hdg := hrk
      rw [dgo, if_pos hlt, drop_at hlt] at hdg
      obtain ⟨c, hc⟩ : ∃ c, s[pos]'hlt = c := ⟨_, rfl⟩
      obtain ⟨t, ht⟩ : ∃ t, s.data.toList.drop (pos + 1) = t := ⟨_, rfl⟩
      have hdr : s.data.toList.drop pos = c :: t := by rw [drop_at hlt, hc, ht]
      rw [hc, ht] at hdg
      have HDEC : Hid (∀ w', Lib.Utf8Tabs 0 1 w' → Calls Tryd.prog 60 #[.string (s.extract pos s.size)] w' fun e w2 => e = .returned (.tuple #[.int .i32 r, .int .i64 k]) ∧ Below w'.heap.size w' w2) := Lib.hid fun w' h' => by
        have := Tryd.utf8_DecodeRuneInString (s.extract pos s.size) w' h'
        rw [hrk] at this
        exact this
      have hps : (pos : Int) ≤ (s.size : Int) := by omega
      have hp0 : (0 : Int) ≤ (pos : Int) := by omega
      have hkle : pos + k ≤ s.size ∧ 1 ≤ k := by
        have h0 := Lib.decodeL_width (c :: t)
        have h1 := Lib.decodeL_le (c :: t) (by simp)
        rw [hdg] at h1 h0
        have h2 : (c :: t).length = s.size - pos := by rw [← hdr]; simp
        simp only at h1 h0
        omega
      obtain ⟨hkle, hk1⟩ := hkle
      have hstep := hI.out
      rw [hdr] at hstep
      have hlen : (Lib.byteCells out).length + 4 ≤ 140737488355328 := by
        rw [Lib.byteCells_length]
        rcases HBND.out with hb | ⟨o, b', j, ho, hol2⟩
        · omega
        · rw [hI.out] at ho
          have := quotedN_grow _ _ _ _ _ _ _ _ ho
          omega
      have HDG := Lib.hid hdg
      have HDR := Lib.hid hdr
      have HST := Lib.hid hstep
      have HTT := Lib.hid ht
      clear hrk hdg hdr hstep ht hc hI
      go_wp2_with fail
      go_quiet (fail)
      go_wp2_with fail
      have hr0 : Rdr b s pos (Lib.byteCells out) bad (wr.drewN nq) := h.drewN nq
      have hB0 : Below b w (wr.drewN nq) := bel_drewN hB nq
      generalize wr.drewN nq = w0 at hr0 hB0 ⊢
      clear c0 c1 h hB
      have d0 : w0.drew.cell? ⟨b, 0, none⟩ = some (.string s) := hr0.c0
      have d1 : w0.drew.cell? ⟨b, 1, none⟩ = some (.int .i64 pos) := hr0.c1
      have hr1 : Rdr b s pos (Lib.byteCells out) bad w0.drew := hr0.drewN 1
      have hbl1 : Below b w w0.drew := hB0.trans (Below.drew (Below.refl b w0))
      have HT1 : Hid (Lib.Utf8Tabs 0 1 w0.drew) := Lib.hid (tabs_keep HT.out hb1 hbl1)
      refine wp_region_seq [] [(0, true), (1, true), (2, true), (3, true), (4, true), (5, true), (6, true), (7, true), (8, true), (9, false), (10, true), (11, true), (12, true), (13, true), (14, true)]
        Tryd.lays169.mixed (by kernel_rfl) (by kernel_rfl) (fun c a d v w h => by cases d <;> exact h) ?_
      generalize w0.drew = w1 at d0 d1 hr1 hbl1 HT1 ⊢
      clear hr0 hB0
      refine seqP_held (fun W => W.cell? ⟨b, 0, none⟩ = some (.string s) ∧ W.cell? ⟨b, 1, none⟩ = some (.int .i64 pos)) ⟨d0, d1⟩ ?_
      refine seqH_take (o := ⟨some 16, _, _, _, _, none⟩) _ rfl (by rfl) (fun W hW => by (obtain ⟨e1, e2⟩ := hW; go_simp; with_reducible rfl)) ?_
      simp only [Act.put, List.setIfInBounds_toArray, List.set_cons_zero, List.set_cons_succ]
      refine seqH_take (o := ⟨some 17, _, _, _, _, none⟩) _ rfl (by rfl) (fun W hW => by (obtain ⟨e1, e2⟩ := hW; go_simp; with_reducible rfl)) ?_
      simp only [Act.put, List.setIfInBounds_toArray, List.set_cons_zero, List.set_cons_succ]
      refine seqH_take (o := ⟨some 18, _, _, _, _, none⟩) _ rfl (by rfl) (fun W hW => by (obtain ⟨e1, e2⟩ := hW; go_simp; with_reducible rfl)) ?_
      simp only [Act.put, List.setIfInBounds_toArray, List.set_cons_zero, List.set_cons_succ]
      refine seqH_take (o := ⟨some 19, _, _, _, _, none⟩) _ rfl (by rfl) (fun W hW => by (obtain ⟨e1, e2⟩ := hW; go_simp; with_reducible rfl)) ?_
      simp only [Act.put, List.setIfInBounds_toArray, List.set_cons_zero, List.set_cons_succ]
      refine seqH_take (o := ⟨some 20, _, _, _, _, none⟩) _ rfl (by rfl) (fun W hW => by (obtain ⟨e1, e2⟩ := hW; go_simp; with_reducible rfl)) ?_
      simp only [Act.put, List.setIfInBounds_toArray, List.set_cons_zero, List.set_cons_succ]
      refine seqH_take (o := ⟨some 21, _, _, _, _, none⟩) _ rfl (by rfl) (fun W hW => by (obtain ⟨e1, e2⟩ := hW; go_simp; with_reducible rfl)) ?_
      simp only [Act.put, List.setIfInBounds_toArray, List.set_cons_zero, List.set_cons_succ]
      refine seqH_take (o := ⟨some 22, _, _, _, _, none⟩) _ rfl (by rfl) (fun W hW => by (obtain ⟨e1, e2⟩ := hW; go_simp; with_reducible rfl)) ?_
      simp only [Act.put, List.setIfInBounds_toArray, List.set_cons_zero, List.set_cons_succ]
      refine seqH_take (o := ⟨some 23, _, _, _, _, none⟩) _ rfl (by rfl) (fun W hW => by (obtain ⟨e1, e2⟩ := hW; go_simp; with_reducible rfl)) ?_
      simp only [Act.put, List.setIfInBounds_toArray, List.set_cons_zero, List.set_cons_succ]
      refine seqH_take (o := ⟨some 24, _, _, _, _, none⟩) _ rfl (by rfl) (fun W hW => by (obtain ⟨e1, e2⟩ := hW; go_simp; with_reducible rfl)) ?_
      simp only [Act.put, List.setIfInBounds_toArray, List.set_cons_zero, List.set_cons_succ]
      refine seqH_call (o := ⟨some 25, _, _, _, _, none⟩) rfl (by rfl) (fun K hK => ?_)
      go_simp
      refine (HDEC.out _ HT1.out).mono ?_
      rintro e w2 ⟨rfl, hb2⟩
      have hr2 := hr1.below hb2
      have hbl2 : Below b w w2 := hbl1.trans (hb2.mono (by have := hr1.lt; omega))
      refine hK _ _ ⟨hr2.c0, hr2.c1⟩ ?_
      clear d0 d1 hr1 hbl1 hb2 HT1 HDEC hK K
      refine seqH_take (o := ⟨some 15, _, _, _, _, none⟩) _ rfl (by rfl) (fun W hW => by (obtain ⟨e1, e2⟩ := hW; go_simp; with_reducible rfl)) ?_
      simp only [Act.put, List.setIfInBounds_toArray, List.set_cons_zero, List.set_cons_succ]
      refine seqH_take (o := ⟨some 26, _, _, _, _, none⟩) _ rfl (by rfl) (fun W hW => by (obtain ⟨e1, e2⟩ := hW; go_simp; with_reducible rfl)) ?_
      simp only [Act.put, List.setIfInBounds_toArray, List.set_cons_zero, List.set_cons_succ]
      refine seqH_take (o := ⟨some 27, _, _, _, _, none⟩) _ rfl (by rfl) (fun W hW => by (obtain ⟨e1, e2⟩ := hW; go_simp; with_reducible rfl)) ?_
      simp only [Act.put, List.setIfInBounds_toArray, List.set_cons_zero, List.set_cons_succ]
      refine seqH_take (o := ⟨some 3, _, _, _, _, none⟩) _ rfl (by rfl) (fun W hW => by (obtain ⟨e1, e2⟩ := hW; go_simp; with_reducible rfl)) ?_
      simp only [Act.put, List.setIfInBounds_toArray, List.set_cons_zero, List.set_cons_succ]
      refine seqH_take (o := ⟨some 4, _, _, _, _, none⟩) _ rfl (by rfl) (fun W hW => by (obtain ⟨e1, e2⟩ := hW; go_simp; with_reducible rfl)) ?_
      simp only [Act.put, List.setIfInBounds_toArray, List.set_cons_zero, List.set_cons_succ]
      refine seqH_nil ?_
      have c1 := hr2.c1
      have f1 := hr2.free 1
      have HSET : Hid (∀ (m : Nat) (z : Int), z = (pos : Int) + m → Rdr b s (pos + m) (Lib.byteCells out) bad (w2.setCell ⟨b, 1, none⟩ (.int .i64 z))) := Lib.hid (by
        rintro m z rfl
        have := hr2.setPos (pos + m)
        rwa [show (((pos + m : Nat) : Int)) = (pos : Int) + m by omega] at this)
      have HSB : Hid (∀ z : Value, Below b w (w2.setCell ⟨b, 1, none⟩ z)) := Lib.hid fun z => hbl2.setCell (p := ⟨b, 1, none⟩) (Nat.le_refl _) z
      have HB2 := Lib.hid hbl2
      clear hbl2 hr2
      cases hbad : badD (r, k) with
      | true =>
        have hrk : r = 65533 ∧ k = 1 := by simpa [badD] using hbad
        obtain ⟨rfl, rfl⟩ := hrk
        have HF : Hid (R = none) := Lib.hid (by
          have h128 : 128 ≤ c.toNat := bad_high (by rw [HDG.out]; exact hbad)
          rw [HST.out, qstep_rune n c t out bad pos (by rintro rfl; exact absurd h128 (by decide)) (by rintro rfl; exact absurd h128 (by decide)), HDG.out, hbad]
          rfl)
        clear hbad HSET HSB
        go_wp2_with fail
        go_ret
        refine ⟨HB2.out, ?_⟩
        rw [HF.out]
        rfl
      | false =>
        have HBAD := Lib.hid hbad
        clear hbad
        have hrle : r ≤ 1114111 := by
          have := Lib.decodeL_rune (c :: t)
          rw [HDG.out] at this
          exact this
        have hk65 : r = 65533 → 2 ≤ k := by
          intro hr
          have := HBAD.out
          simp [badD, hr] at this
          omega
        by_cases hq : c = 39
        · subst hq
          have hd := HDG.out
          rw [Lib.decodeL_ascii 39 t (by decide)] at hd
          obtain ⟨hd1, hd2⟩ := Prod.mk.inj hd
          obtain rfl : r = 39 := hd1.symm
          obtain rfl : k = 1 := hd2.symm
          have HF : Hid (R = some (out, bad, pos + 1)) := Lib.hid (by rw [HST.out, qstep_quote])
          clear hd hd1 hd2 hk65
          go_wp2_with fail
          go_ret
          refine ⟨HSB.out _, ?_⟩
          rw [HF.out]
          exact ⟨rfl, HSET.out 1 _ rfl⟩
        · by_cases hq2 : c = 92
          · subst hq2
            have hd := HDG.out
            rw [Lib.decodeL_ascii 92 t (by decide)] at hd
            obtain ⟨hd1, hd2⟩ := Prod.mk.inj hd
            obtain rfl : r = 92 := hd1.symm
            obtain rfl : k = 1 := hd2.symm
            have HF : Hid (R = match escapeL t with
              | none => none
              | some (v, j) => if okRune v then quotedN n (t.drop j) (out ++ encodeRune (v : Int)) bad (pos + 1 + j) else quotedN n (t.drop j) out true (pos + 1 + j)) := Lib.hid (by rw [HST.out, qstep_esc])
            clear hd hd1 hd2 hk65 hq
            go_wp2_with fail
            refine (special_any b s (pos + 1) (Lib.byteCells out) bad hs (by omega) _ (HSET.out 1 _ rfl) hlen (tabs_keep HT.out hb1 (HSB.out _)) hb1).mono ?_
            intro e w3 hpost
            obtain ⟨hbl3, hpost⟩ := hpost
            have hB3 := (HSB.out _).trans hbl3
            rw [HTT.out] at hpost
            cases he : escapeL t with
            | none =>
              rw [he] at hpost
              have hee : e = .returned (.bool false) := hpost
              subst hee
              have HG : Hid (R = none) := Lib.hid (by rw [HF.out, he])
              have HB3 := Lib.hid hB3
              clear hbl3 hpost he hB3
              go_wp2_with fail
              go_ret
              refine ⟨HB3.out, ?_⟩
              rw [HG.out]
              rfl
            | some p =>
              obtain ⟨v, j⟩ := p
              rw [he] at hpost
              obtain ⟨hee, hpj, hr3⟩ := hpost
              subst hee
              have hj1 : 1 ≤ pos + 1 + j := by omega
              have HB3 := Lib.hid hB3
              have HF2 : Hid (R = if okRune v then quotedN n (s.data.toList.drop (pos + 1 + j)) (out ++ encodeRune (v : Int)) bad (pos + 1 + j) else quotedN n (s.data.toList.drop (pos + 1 + j)) out true (pos + 1 + j)) := Lib.hid (by
                rw [HF.out, he]
                dsimp only
                rw [← HTT.out, List.drop_drop])
              have HR3 := Lib.hid hr3
              clear hbl3 he hB3 hr3
              by_cases hok : okRune v = true
              · have HG : Hid (R = quotedN n (s.data.toList.drop (pos + 1 + j)) (out ++ encodeRune (v : Int)) bad (pos + 1 + j)) := Lib.hid (by rw [HF2.out, if_pos hok])
                have HR4 : Hid (Rdr b s (pos + 1 + j) (Lib.byteCells (out ++ encodeRune (v : Int))) bad w3) := Lib.hid (by
                  have := HR3.out
                  rw [if_pos hok, if_pos hok] at this
                  rw [Lib.byteCells_append, Lib.byteCells_encodeRune]
                  exact this)
                have hel := (enc_len v).2
                clear hok
                go_wp2_with fail
                go_roundg (s.size - (pos + 1 + j))
                case measure => omega
                case rel => exact ⟨pos + 1 + j, out ++ encodeRune (v : Int), bad, n, by omega, by omega, by omega, by rw [List.length_append]; omega, HR4.out, HB3.out, HG⟩
              · have HG : Hid (R = quotedN n (s.data.toList.drop (pos + 1 + j)) out true (pos + 1 + j)) := Lib.hid (by rw [HF2.out, if_neg hok])
                have HR4 : Hid (Rdr b s (pos + 1 + j) (Lib.byteCells out) true w3) := Lib.hid (by
                  have := HR3.out
                  rwa [if_neg hok, if_neg hok] at this)
                clear hok
                go_wp2_with fail
                go_roundg (s.size - (pos + 1 + j))
                case measure => omega
                case rel => exact ⟨pos + 1 + j, out, true, n, by omega, by omega, by omega, by omega, HR4.out, HB3.out, HG⟩
          · have hrc : r ≠ 39 ∧ r ≠ 92 := by
              rcases Nat.lt_or_ge c.toNat 128 with hasc | h128
              · have hd := HDG.out
                rw [Lib.decodeL_ascii c t hasc] at hd
                obtain ⟨hd1, _⟩ := Prod.mk.inj hd
                constructor
                · rintro rfl; exact hq (UInt8.toNat.inj hd1)
                · rintro rfl; exact hq2 (UInt8.toNat.inj hd1)
              · have hh := rune_high h128 (by rw [HDG.out]; exact HBAD.out)
                rw [HDG.out] at hh
                obtain ⟨hh, _⟩ := hh
                simp only at hh
                omega
            have HF : Hid (R = quotedN n (s.data.toList.drop (pos + k)) (out ++ encodeRune (r : Int)) bad (pos + k)) := Lib.hid (by
              rw [HST.out, qstep_rune n c t out bad pos hq hq2, HDG.out, if_neg (by rw [HBAD.out]; decide), ← HDR.out, List.drop_drop])
            have e39 : ((r : Int) == 39) = false := by simp; omega
            have e92 : ((r : Int) == 92) = false := by simp; omega
            have hel := (enc_len r).2
            clear hq hq2 hrc
            by_cases hr65 : r = 65533
            · have hk2 := hk65 hr65
              subst hr65
              clear hk65 e39 e92
              go_wp2_with fail
              refine (rd_rune b s (pos + k) (Lib.byteCells out) bad 65533 (by omega) (by omega) _ (HSET.out k _ rfl) hlen).mono ?_
              rintro e w4 ⟨rfl, hpost⟩
              have HR4 : Hid (Rdr b s (pos + k) (Lib.byteCells (out ++ encodeRune ((65533 : Nat) : Int))) bad w4) := Lib.hid (by
                rw [Lib.byteCells_append, Lib.byteCells_encodeRune]
                exact hpost.1)
              have HB4 := Lib.hid ((HSB.out _).trans hpost.2)
              clear hpost
              go_wp2_with fail
              go_roundg (s.size - (pos + k))
              case measure => omega
              case rel => exact ⟨pos + k, out ++ encodeRune ((65533 : Nat) : Int), bad, n, by omega, by omega, by omega, by rw [List.length_append]; omega, HR4.out, HB4.out, HF⟩
            · have e65 : ((r : Int) == 65533) = false := by simp; omega
              clear hr65 hk65
              go_wp2_with fail
              refine (rd_rune b s (pos + k) (Lib.byteCells out) bad r (by omega) (by omega) _ (HSET.out k _ rfl) hlen).mono ?_
              rintro e w4 ⟨rfl, hpost⟩
              have HR4 : Hid (Rdr b s (pos + k) (Lib.byteCells (out ++ encodeRune (r : Int))) bad w4) := Lib.hid (by
                rw [Lib.byteCells_append, Lib.byteCells_encodeRune]
                exact hpost.1)
              have HB4 := Lib.hid ((HSB.out _).trans hpost.2)
              clear hpost
              go_wp2_with fail
              go_roundg (s.size - (pos + k))
              case measure => omega
              case rel => exact ⟨pos + k, out ++ encodeRune (r : Int), bad, n, by omega, by omega, by omega, by rw [List.length_append]; omega, HR4.out, HB4.out, HF⟩
    · have HF : Hid (R = none) := Lib.hid (by rw [hI.out, drop_end (by omega), qstep_nil])
      clear hI
      go_wp2_with fail
      go_quiet (fail)
      go_wp2_with fail
      go_ret
      refine ⟨bel_drewN hB _, ?_⟩
      rw [HF.out]
      rfl
end Go.Proofs.YtflbcijmfcmilaaDoor
