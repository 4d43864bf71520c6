/- The document's reading of an atom in quotes. -/
import Derived.Test.YtflbcijmfcmilaaDoorResc
import Derived.Test.YtflbcijmfcmilaaDoorThere
import Derived.Stop.FmtQuoteTie
namespace Go.Proofs.YtflbcijmfcmilaaDoor
open Go.RowKit
open Go.Lib (decodeL encodeRune)

theorem nums_back (L : List UInt8) : (L.map fun x => (x.toNat : Int)).map (fun x : Int => x.toNat.toUInt8) = L := by
  induction L with
  | nil => rfl
  | cons a l ih =>
    rw [List.map_cons, List.map_cons, ih]
    congr 1
    apply UInt8.toNat.inj
    simp

theorem enc_str (r : Nat) : Utf8.encode (r : Int) = ⟨(encodeRune (r : Int)).toArray⟩ := by
  apply ByteArray.ext
  apply Array.toList_inj.1
  have h := Go.Extern.FmtText.encode_eq r
  have h2 := nums_back (Utf8.encode (r : Int)).data.toList
  have h3 : (Utf8.encode (r : Int)).data.toList = encodeRune (r : Int) := by
    rw [← h2]
    exact congrArg (List.map fun x : Int => x.toNat.toUInt8) h
  rw [h3]

theorem ok_cap (v : Nat) : (okRune v = true ∧ capR v = v ∧ v ≤ 1114111 ∧ (v < 55296 ∨ 57343 < v)) ∨ (okRune v = false ∧ (1114111 < capR v ∨ (55296 ≤ capR v ∧ capR v ≤ 57343))) := by
  unfold okRune capR
  by_cases h : v < 55296 ∨ (57344 ≤ v ∧ v ≤ 1114111)
  · refine .inl ⟨decide_eq_true h, ?_, ?_, ?_⟩ <;> omega
  · refine .inr ⟨decide_eq_false h, ?_⟩
    omega

theorem hexO_le (l : List UInt8) (v j : Nat) (h : hexO l = some (v, j)) : j ≤ l.length := by
  by_cases hc : l.head? = some 123
  · cases l with
    | nil => cases hc
    | cons c u =>
      obtain rfl : c = 123 := Option.some.inj hc
      have h' : (if (readNum 16 u.length u 0).2 = 0 then none else if u[(readNum 16 u.length u 0).2]? = some 125 then some ((readNum 16 u.length u 0).1, (readNum 16 u.length u 0).2 + 2) else none) = some (v, j) := h
      split at h'
      · cases h'
      · split at h'
        · rename_i hg
          obtain ⟨hg, _⟩ := List.getElem?_eq_some_iff.1 hg
          cases h'
          simp only [List.length_cons]
          omega
        · cases h'
  · rw [hexO_two hc] at h
    split at h
    · rename_i h2
      have := (readNum_le 16 2 l 0).2
      cases h
      omega
    · cases h

theorem escapeL_le (l : List UInt8) (v j : Nat) (h : escapeL l = some (v, j)) : j ≤ l.length := by
  cases l with
  | nil => cases h
  | cons c t =>
    by_cases hx : c = 120
    · subst hx
      rw [esc_x] at h
      cases hh : hexO t with
      | none => rw [hh] at h; cases h
      | some p =>
        rw [hh] at h
        have := hexO_le t p.1 p.2 hh
        cases h
        simp only [List.length_cons]
        omega
    · by_cases hc : c = 94
      · subst hc
        rw [esc_c] at h
        cases t with
        | nil => cases h
        | cons d u =>
          have h' : ((ctrl d).map fun v => ((v, 1) : Nat × Nat)).map (fun p => (p.1, p.2 + 1)) = some (v, j) := h
          cases hd : ctrl d with
          | none => rw [hd] at h'; cases h'
          | some x =>
            rw [hd] at h'
            cases h'
            simp
      · by_cases hd : 48 ≤ c.toNat ∧ c.toNat ≤ 55
        · rw [esc_d c t hd.1 hd.2] at h
          have := (readNum_le 8 3 (c :: t) 0).2
          rw [Option.some.inj h] at this
          exact this
        · rw [esc_n c t hx hc hd] at h
          split at h
          · cases h; simp
          · split at h
            · cases h
            · have := Lib.decodeL_le (c :: t) (by simp)
              rw [Option.some.inj h] at this
              exact this

/-- What the document reads from a place of a text in quotes on. -/
def rqFin (R : Option (List UInt8 × Bool × Nat)) : Value := resV (qRes R)

theorem nat_ne_byte {c : UInt8} {m : Nat} (d : UInt8) (h : c.toNat = m) (hne : c ≠ d) : m ≠ d.toNat := by
  rintro rfl
  exact hne (UInt8.toNat.inj h)

set_option maxHeartbeats 6400000 in
set_option maxRecDepth 100000 in
theorem rquoted_any (s : ByteArray) (pos0 : Nat) (hp0 : pos0 < s.size) (hs : s.size ≤ 1048576) (w : World) :
    Calls Tryd.prog 48 #[.string s, .int .i64 pos0] w fun e w' => e = .returned (rqFin (quotedR s pos0)) ∧ Below w.heap.size w w' := by
  obtain ⟨R, hR⟩ : ∃ R, quotedR s pos0 = R := ⟨_, rfl⟩
  rw [hR]
  have HR : Hid (R = quotedN (s.size + 1) (s.data.toList.drop (pos0 + 1)) [] false (pos0 + 1)) := Lib.hid hR.symm
  clear hR
  go_enter Tryd.func48, Tryd.ntmps48
  go_wp2_with fail
  go_loopg [1, 7, 8] s.size (fun g s1 s7 s8 wr => ∃ (pos : Nat) (out : List UInt8) (bad : Bool) (n : Nat), pos ≤ s.size ∧ s.size - pos ≤ g ∧ s.size - pos < n ∧ out.length + 4 * (s.size - pos) ≤ 4 * s.size ∧ s1 = .int .i64 pos ∧ s7 = .string ⟨out.toArray⟩ ∧ s8 = .bool bad ∧ Below w.heap.size w wr ∧ Hid (R = quotedN n (s.data.toList.drop pos) out bad pos))
  case atStart => exact ⟨pos0 + 1, [], false, s.size + 1, by omega, by omega, by omega, by simp; omega, rfl, rfl, rfl, Below.refl _ _, HR⟩
  case round =>
    clear HR
    obtain ⟨pos, out, bad, n, hg, hgg, hgn, hol, rfl, rfl, rfl, hB, hI⟩ := hrel
    have HB := Lib.hid hB
    clear hB
    by_cases hlt : pos < s.size
    · obtain ⟨n, rfl⟩ : ∃ m, n = m + 1 := ⟨n - 1, by omega⟩
      obtain ⟨c, hc⟩ : ∃ c, s[pos]'hlt = c := ⟨_, rfl⟩
      obtain ⟨t, ht⟩ : ∃ t, s.data.toList.drop (pos + 1) = t := ⟨_, rfl⟩
      have hdr : s.data.toList.drop pos = c :: t := by rw [drop_at hlt, hc, ht]
      obtain ⟨m, hm⟩ : ∃ m, c.toNat = m := ⟨_, rfl⟩
      have hm256 : m < 256 := by rw [← hm]; exact c.toNat_lt
      have hcz : (s[pos]'hlt).toNat = m := by rw [hc, hm]
      have hpz : (pos : Int) < (s.size : Int) := by omega
      have hstep : R = quotedN (n + 1) (c :: t) out bad pos := by rw [hI.out, hdr]
      by_cases hq : c = 39
      · subst hq
        obtain rfl : m = 39 := hm.symm
        have HF : Hid (R = some (out, bad, pos + 1)) := Lib.hid (by rw [hstep, qstep_quote])
        clear hI hstep hdr hc ht hm hgg hgn
        cases bad with
        | true =>
          have HV : Hid (rqFin R = .tuple #[.string ⟨#[]⟩, .int .i64 0, .int .i64 20]) := Lib.hid (by rw [HF.out]; rfl)
          go_wp2_with fail
          go_ret3
          exact ⟨by rw [HV.out]; rfl, HB.out⟩
        | false =>
          by_cases h255 : 255 < out.length
          · have HV : Hid (rqFin R = .tuple #[.string ⟨#[]⟩, .int .i64 0, .int .i64 20]) := Lib.hid (by
              rw [HF.out]
              unfold rqFin qRes
              dsimp only
              rw [if_pos (.inr h255)]
              rfl)
            go_wp2_with fail
            go_ret3
            exact ⟨by rw [HV.out]; rfl, HB.out⟩
          · have HV : Hid (rqFin R = .tuple #[.string ⟨out.toArray⟩, .int .i64 ((pos : Int) + 1), .int .i64 0]) := Lib.hid (by
              rw [HF.out]
              unfold rqFin qRes
              dsimp only
              rw [if_neg (by simp; omega)]
              rfl)
            go_wp2_with fail
            go_ret3
            exact ⟨by rw [HV.out]; rfl, HB.out⟩
      · have hm39 : m ≠ 39 := nat_ne_byte 39 hm hq
        have e39 : ((m : Int) == 39) = false := beq_false_of_ne (by omega)
        have e39' : ((m : Int) != 39) = true := by simp; omega
        by_cases hq2 : c = 92
        · subst hq2
          obtain rfl : m = 92 := hm.symm
          have HF : Hid (R = match escapeL (s.data.toList.drop (pos + 1)) with
              | none => none
              | some (v, j) => if okRune v then quotedN n (s.data.toList.drop (pos + 1 + j)) (out ++ encodeRune (v : Int)) bad (pos + 1 + j) else quotedN n (s.data.toList.drop (pos + 1 + j)) out true (pos + 1 + j)) := Lib.hid (by
            rw [hstep, qstep_esc, ← ht]
            cases escapeL (s.data.toList.drop (pos + 1)) with
            | none => rfl
            | some p => dsimp only; rw [List.drop_drop])
          have HES := Lib.hid (resc_any s (pos + 1) (by omega) (by omega))
          clear hI hstep hdr hc ht hm hq
          cases he : escapeL (s.data.toList.drop (pos + 1)) with
          | none =>
            have HV : Hid (rqFin R = .tuple #[.string ⟨#[]⟩, .int .i64 0, .int .i64 70]) := Lib.hid (by rw [HF.out, he]; rfl)
            have HES2 : Hid (∀ w, Calls Tryd.prog 62 #[.string s, .int .i64 ((pos : Int) + 1)] w fun e w' => e = .returned (.tuple #[.int .i64 (-1), .int .i64 ((pos : Int) + 1)]) ∧ Below w.heap.size w w') := Lib.hid fun w => by
              have := HES.out w
              rw [he] at this
              exact this
            clear HES he HF
            go_wp2_with fail
            refine (HES2.out _).mono ?_
            rintro e w2 ⟨rfl, hb2⟩
            have HB2 : Hid (Below w.heap.size w w2) := Lib.hid (HB.out.trans (hb2.mono HB.out.size))
            clear hb2
            go_wp2_with fail
            go_ret3
            exact ⟨by rw [HV.out]; rfl, HB2.out⟩
          | some p =>
            obtain ⟨v, j⟩ := p
            have hjl := escapeL_le _ _ _ he
            have hjs : pos + 1 + j ≤ s.size := by
              rw [List.length_drop] at hjl
              have hl : s.data.toList.length = s.size := by simp
              omega
            have HES2 : Hid (∀ w, Calls Tryd.prog 62 #[.string s, .int .i64 ((pos : Int) + 1)] w fun e w' => e = .returned (.tuple #[.int .i64 (capR v), .int .i64 ((pos + 1 + j : Nat) : Int)]) ∧ Below w.heap.size w w') := Lib.hid fun w => by
              have := HES.out w
              rw [he] at this
              exact this
            have HF2 : Hid (R = if okRune v then quotedN n (s.data.toList.drop (pos + 1 + j)) (out ++ encodeRune (v : Int)) bad (pos + 1 + j) else quotedN n (s.data.toList.drop (pos + 1 + j)) out true (pos + 1 + j)) := Lib.hid (by rw [HF.out, he])
            clear HES he HF hjl
            rcases ok_cap v with ⟨hok, hcap, hv1, hv2⟩ | ⟨hok, hv⟩
            · have HG : Hid (R = quotedN n (s.data.toList.drop (pos + 1 + j)) (out ++ encodeRune (v : Int)) bad (pos + 1 + j)) := Lib.hid (by rw [HF2.out, if_pos hok])
              rw [hcap] at HES2
              have hel := (enc_len v).2
              have hesz : (Utf8.encode (v : Int)).size ≤ 4 := by rw [enc_str v]; show (encodeRune (v : Int)).toArray.size ≤ 4; rw [List.size_toArray]; omega
              have hsz2 : ¬ 9223372036854775807 < out.length + (Utf8.encode (v : Int)).size := by omega
              have hw32 : IntKind.i32.wrap (v : Int) = v := IntWalk.i32_in (v : Int) (by omega)
              have HV1 := Lib.hid hv1
              clear hok hcap HF2 hesz
              rcases hv2 with hv2 | hv2
              all_goals
                go_wp2_with fail
                refine (HES2.out _).mono ?_
                rintro e w2 ⟨rfl, hb2⟩
                have HB2 : Hid (Below w.heap.size w w2) := Lib.hid (HB.out.trans (hb2.mono HB.out.size))
                clear hb2 HES2
                go_wp2_with fail
                go_roundg (s.size - (pos + 1 + j))
                case measure => omega
                case rel =>
                  refine ⟨pos + 1 + j, out ++ encodeRune (v : Int), bad, n, hjs, by omega, by omega, ?_, rfl, ?_, rfl, HB2.out, HG⟩
                  · rw [List.length_append]; omega
                  · rw [enc_str, ba_app]
            · have HG : Hid (R = quotedN n (s.data.toList.drop (pos + 1 + j)) out true (pos + 1 + j)) := Lib.hid (by rw [HF2.out, if_neg (by rw [hok]; decide)])
              have hcle := capR_le v
              obtain ⟨z, hz⟩ : ∃ z, capR v = z := ⟨_, rfl⟩
              rw [hz] at HES2 hv hcle
              clear hok hz HF2
              rcases hv with hv | ⟨hv, hv2⟩
              all_goals
                go_wp2_with fail
                refine (HES2.out _).mono ?_
                rintro e w2 ⟨rfl, hb2⟩
                have HB2 : Hid (Below w.heap.size w w2) := Lib.hid (HB.out.trans (hb2.mono HB.out.size))
                clear hb2 HES2
                go_wp2_with fail
                go_roundg (s.size - (pos + 1 + j))
                case measure => omega
                case rel => exact ⟨pos + 1 + j, out, true, n, hjs, by omega, by omega, by omega, rfl, rfl, rfl, HB2.out, HG⟩
        · have hm92 : m ≠ 92 := nat_ne_byte 92 hm hq2
          have e92 : ((m : Int) == 92) = false := beq_false_of_ne (by omega)
          have e92' : ((m : Int) != 92) = true := by simp; omega
          obtain ⟨r, k, hrk⟩ : ∃ r k, decodeL (s.data.toList.drop pos) = (r, k) := ⟨_, _, rfl⟩
          have hne : s.data.toList.drop pos ≠ [] := by rw [hdr]; simp
          obtain ⟨hk1, hkl⟩ : 1 ≤ k ∧ pos + k ≤ s.size := by
            have h1 := Lib.decodeL_width (s.data.toList.drop pos)
            have h2 := Lib.decodeL_le (s.data.toList.drop pos) hne
            rw [hrk] at h1 h2
            rw [List.length_drop] at h2
            have hl : s.data.toList.length = s.size := by simp
            simp only at h1 h2
            omega
          have HFR : Hid (∀ w, Calls Tryd.prog 40 #[.string (s.extract pos s.size)] w (FirstR r k w)) := Lib.hid fun w => first_rune s pos r k hlt (by omega) hrk w
          cases hbad : badD (r, k) with
          | true =>
            have HF : Hid (R = none) := Lib.hid (by rw [hstep, qstep_rune n c t out bad pos hq hq2, ← hdr, hrk, hbad]; rfl)
            have HV : Hid (rqFin R = .tuple #[.string ⟨#[]⟩, .int .i64 0, .int .i64 70]) := Lib.hid (by rw [HF.out]; rfl)
            have HBAD := Lib.hid hbad
            clear hrk hne hI hstep hdr hc ht hm hq hq2 hbad HF
            go_wp2_with fail
            refine (HFR.out _).mono ?_
            rintro e w2 ⟨g, off, m2, cap, rfl, hm1, hm2, hm3, c0, c1, c2, c3, hb2⟩
            rw [HBAD.out] at c3
            have hsz := hb2.size
            have HB2 : Hid (Below w.heap.size w w2) := Lib.hid (HB.out.trans (hb2.mono HB.out.size))
            clear hb2
            go_wp2_with fail
            go_ret3
            exact ⟨by rw [HV.out]; rfl, HB2.out.alloc (by have := HB.out.size; omega) _⟩
          | false =>
            have henc := encode_decode' _ hne (by rw [hrk]; exact hbad)
            rw [hrk] at henc
            have HF : Hid (R = quotedN n (s.data.toList.drop (pos + k)) (out ++ encodeRune (r : Int)) bad (pos + k)) := Lib.hid (by
              rw [hstep, qstep_rune n c t out bad pos hq hq2, ← hdr, hrk, if_neg (by rw [hbad]; decide), List.drop_drop])
            have HX : Hid ((⟨out.toArray⟩ : ByteArray) ++ s.extract pos (pos + k) = ⟨(out ++ encodeRune (r : Int)).toArray⟩) := Lib.hid (by rw [ext_take, henc, ba_app])
            have hel := (enc_len r).2
            have hex : (s.extract pos (pos + k)).size = k := by simp; omega
            have hk4 : k ≤ 4 := by
              have := congrArg List.length henc
              rw [List.length_take, List.length_drop] at this
              have hl : s.data.toList.length = s.size := by simp
              simp only at this
              omega
            have hlk : (encodeRune (r : Int)).length ≤ k := by
              have := congrArg List.length henc
              rw [List.length_take] at this
              simp only at this
              omega
            have HBAD := Lib.hid hbad
            have HLK := Lib.hid hlk
            have h0 : (pos : Int) ≤ (pos : Int) + k := by omega
            have h1 : (pos : Int) + k ≤ (s.size : Int) := by omega
            have h2 : ((pos : Int) + k).toNat = pos + k := by omega
            have h3 : (0 : Int) ≤ (pos : Int) + k := by omega
            clear hrk hne hI hstep hdr hc ht hm hq hq2 hbad henc hel hlk
            go_wp2_with fail
            refine (HFR.out _).mono ?_
            rintro e w2 ⟨g, off, m2, cap, rfl, hm1, hm2, hm3, c0, c1, c2, c3, hb2⟩
            rw [HBAD.out] at c3
            have hsz := hb2.size
            have HB2 : Hid (Below w.heap.size w w2) := Lib.hid (HB.out.trans (hb2.mono HB.out.size))
            clear hb2 HFR
            go_wp2_with fail
            go_roundg (s.size - (pos + k))
            case measure => omega
            case rel =>
              have hlk := HLK.out
              refine ⟨pos + k, out ++ encodeRune (r : Int), bad, n, by omega, by omega, by omega, ?_, rfl, ?_, rfl, HB2.out.alloc (by have := HB.out.size; omega) _, HF⟩
              · rw [List.length_append]; omega
              · rw [← HX.out]
    · have HF : Hid (R = none) := Lib.hid (by rw [hI.out, drop_end (by omega), qstep_nil])
      have HV : Hid (rqFin R = .tuple #[.string ⟨#[]⟩, .int .i64 0, .int .i64 70]) := Lib.hid (by rw [HF.out]; rfl)
      have hz : decide ((pos : Int) < (s.size : Int)) = false := by simp; omega
      have hz2 : decide (s.size ≤ pos) = true := by simp; omega
      clear hI HF
      go_wp2_with fail
      go_ret3
      exact ⟨by rw [HV.out]; rfl, HB.out⟩
end Go.Proofs.YtflbcijmfcmilaaDoor
