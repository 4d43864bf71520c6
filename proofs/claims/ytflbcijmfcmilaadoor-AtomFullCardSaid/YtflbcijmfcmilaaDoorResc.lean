/- The document's escape. -/
import Derived.Test.YtflbcijmfcmilaaDoorRnamed
namespace Go.Proofs.YtflbcijmfcmilaaDoor
open Go.RowKit
open Go.Lib (decodeL encodeRune)

/-- What the document's escape answers behind a backslash. -/
def rescV (pos : Nat) (o : Option (Nat × Nat)) : Value := match o with
  | none => .tuple #[.int .i64 (-1), .int .i64 pos]
  | some (v, j) => .tuple #[.int .i64 (capR v), .int .i64 ((pos + j : Nat) : Int)]

theorem capR_eq {v : Nat} (h : v ≤ 1114112) : capR v = v := Nat.min_eq_left h

theorem unesc_le {n v : Nat} (h : unescF n = some v) : v ≤ 127 := by
  unfold unescF at h
  repeat' (split at h; · (cases h; omega))
  cases h

set_option maxHeartbeats 6400000 in
set_option maxRecDepth 100000 in
theorem resc_any (s : ByteArray) (pos : Nat) (hp : pos ≤ s.size) (hs : s.size ≤ 4294967296) (w : World) :
    Calls Tryd.prog 62 #[.string s, .int .i64 pos] w fun e w' => e = .returned (rescV pos (escapeL (s.data.toList.drop pos))) ∧ Below w.heap.size w w' := by
  have hsm : s.size ≤ maxLen := by unfold maxLen; omega
  by_cases hlt : pos < s.size
  · have hdr := drop_at hlt
    obtain ⟨c, hc⟩ : ∃ c, s[pos]'hlt = c := ⟨_, rfl⟩
    rw [hc] at hdr
    obtain ⟨n, hn⟩ : ∃ n, c.toNat = n := ⟨_, rfl⟩
    have hn256 : n < 256 := by rw [← hn]; exact c.toNat_lt
    have hcz : (s[pos]'hlt).toNat = n := by rw [hc, hn]
    have hpz : (pos : Int) < (s.size : Int) := by omega
    have HDR := Lib.hid hdr
    have HN := Lib.hid hn
    by_cases hx : n = 120
    · subst hx
      have hc120 : c = 120 := UInt8.toNat.inj hn
      have HE : Hid (escapeL (s.data.toList.drop pos) = (hexO (s.data.toList.drop (pos + 1))).map fun p => (p.1, p.2 + 1)) := Lib.hid (by rw [HDR.out, hc120, esc_x])
      clear hc hn hdr hc120
      by_cases hbr : ∃ h : pos + 1 < s.size, s[pos + 1]'h = 123
      · obtain ⟨hlt1, hb⟩ := hbr
        obtain ⟨r, j, hrj⟩ : ∃ r j, readNum 16 s.size (s.data.toList.drop (pos + 2)) 0 = (r, j) := ⟨_, _, rfl⟩
        have hl : (s.data.toList.drop (pos + 2)).length ≤ s.size := by simp
        have hrl : readNum 16 (s.data.toList.drop (pos + 2)).length (s.data.toList.drop (pos + 2)) 0 = (r, j) := by rw [← readNum_most _ _ _ _ hl]; exact hrj
        have hjl : pos + 2 + j ≤ s.size := by
          have := (readNum_le 16 s.size (s.data.toList.drop (pos + 2)) 0).2
          rw [hrj, List.length_drop] at this
          have hl : s.data.toList.length = s.size := by simp
          simp only at this
          omega
        have hO : hexO (s.data.toList.drop (pos + 1)) = if j = 0 then none else if s.data.toList[pos + 2 + j]? = some 125 then some (r, j + 2) else none := by
          rw [drop_at hlt1, hb]
          unfold hexO
          simp only [hrl, List.getElem?_drop]
        have HNUM := Lib.hid (number_any s (pos + 2) 16 s.size r j (.inr rfl) hsm hsm (by omega) w hrj)
        have hbz : (s[pos + 1]'hlt1).toNat = 123 := by rw [hb]; rfl
        have h1z : (pos : Int) + 1 < (s.size : Int) := by omega
        have h1n : ((pos : Int) + 1).toNat = pos + 1 := by omega
        have h10 : (0 : Int) ≤ (pos : Int) + 1 := by omega
        have HO := Lib.hid hO
        have HCAST : Hid (((pos + 2 : Nat) : Int) = (pos : Int) + 2) := Lib.hid rfl
        have HCAST2 : Hid (((pos + 2 + j : Nat) : Int) = (pos : Int) + 2 + (j : Int)) := Lib.hid rfl
        clear hrj hl hrl hO hb
        by_cases hj : j = 0
        · have HF : Hid (rescV pos (escapeL (s.data.toList.drop pos)) = .tuple #[.int .i64 (-1), .int .i64 pos]) := Lib.hid (by rw [HE.out, HO.out, if_pos hj]; rfl)
          subst hj
          have HNUM2 : Hid (Calls Tryd.prog 76 #[.string s, .int .i64 ((pos : Int) + 2), .int .i64 16, .int .i64 s.size] w fun e w' => e = .returned (.tuple #[.int .i64 (capR r), .int .i64 ((pos : Int) + 2)]) ∧ w' = w) := Lib.hid HNUM.out
          clear HE HO HNUM
          go_enter Tryd.func62, Tryd.ntmps62
          go_wp2_with fail
          refine (HNUM2.out).mono ?_
          rintro e w1 ⟨rfl, rfl⟩
          go_wp2_with fail
          go_ret2
          exact ⟨by rw [HF.out]; rfl, Below.refl _ _⟩
        · have HNUM2 : Hid (Calls Tryd.prog 76 #[.string s, .int .i64 ((pos : Int) + 2), .int .i64 16, .int .i64 s.size] w fun e w' => e = .returned (.tuple #[.int .i64 (capR r), .int .i64 ((pos : Int) + 2 + (j : Int))]) ∧ w' = w) := Lib.hid HNUM.out
          have hjz : ((pos : Int) + 2 + (j : Int) == (pos : Int) + 2) = false := beq_false_of_ne (by omega)
          clear HNUM
          by_cases hend : pos + 2 + j < s.size
          · have hi0 : 0 ≤ (pos : Int) + 2 + (j : Int) := by omega
            have hi1 : (pos : Int) + 2 + (j : Int) < (s.size : Int) := by omega
            have hi2 : ((pos : Int) + 2 + (j : Int)).toNat = pos + 2 + j := by omega
            have hltb : decide ((s.size : Int) ≤ (pos : Int) + 2 + (j : Int)) = false := by simp; omega
            have hget : s.data.toList[pos + 2 + j]? = some (s[pos + 2 + j]'hend) := Lib.data_getElem? s _ hend
            by_cases hc5 : s[pos + 2 + j]'hend = 125
            · have hcz5 : (s[pos + 2 + j]'hend).toNat = 125 := by rw [hc5]; rfl
              have HF : Hid (rescV pos (escapeL (s.data.toList.drop pos)) = .tuple #[.int .i64 (capR r), .int .i64 ((pos : Int) + 2 + (j : Int) + 1)]) := Lib.hid (by
                rw [HE.out, HO.out, if_neg hj, hget, hc5, if_pos rfl]
                show Value.tuple #[.int .i64 (capR r), .int .i64 ((pos + (j + 2 + 1) : Nat) : Int)] = _
                rw [show ((pos + (j + 2 + 1) : Nat) : Int) = (pos : Int) + 2 + (j : Int) + 1 by omega])
              clear HE HO hget hc5 hj
              go_enter Tryd.func62, Tryd.ntmps62
              go_wp2_with fail
              refine (HNUM2.out).mono ?_
              rintro e w1 ⟨rfl, rfl⟩
              go_wp2_with fail
              go_ret2
              exact ⟨by rw [HF.out]; rfl, Below.refl _ _⟩
            · obtain ⟨m, hm⟩ : ∃ m, (s[pos + 2 + j]'hend).toNat = m := ⟨_, rfl⟩
              have hm125 : m ≠ 125 := by
                rintro rfl
                exact hc5 (UInt8.toNat.inj (by rw [hm]; rfl))
              have hmz : ((m : Int) == 125) = false := beq_false_of_ne (by omega)
              have hmz2 : ((m : Int) != 125) = true := by simp; omega
              have HF : Hid (rescV pos (escapeL (s.data.toList.drop pos)) = .tuple #[.int .i64 (-1), .int .i64 pos]) := Lib.hid (by
                rw [HE.out, HO.out, if_neg hj, hget, if_neg (by intro h; exact hc5 (Option.some.inj h))]; rfl)
              clear HE HO hget hc5 hj hm125
              go_enter Tryd.func62, Tryd.ntmps62
              go_wp2_with fail
              refine (HNUM2.out).mono ?_
              rintro e w1 ⟨rfl, rfl⟩
              go_wp2_with fail
              go_ret2
              exact ⟨by rw [HF.out]; rfl, Below.refl _ _⟩
          · have hltb : decide ((s.size : Int) ≤ (pos : Int) + 2 + (j : Int)) = true := by simp; omega
            have HF : Hid (rescV pos (escapeL (s.data.toList.drop pos)) = .tuple #[.int .i64 (-1), .int .i64 pos]) := Lib.hid (by
              rw [HE.out, HO.out, if_neg hj, List.getElem?_eq_none (by simp; omega), if_neg (by simp)]; rfl)
            clear HE HO hj
            go_enter Tryd.func62, Tryd.ntmps62
            go_wp2_with fail
            refine (HNUM2.out).mono ?_
            rintro e w1 ⟨rfl, rfl⟩
            go_wp2_with fail
            go_ret2
            exact ⟨by rw [HF.out]; rfl, Below.refl _ _⟩
      · obtain ⟨r, j, hrj⟩ : ∃ r j, readNum 16 2 (s.data.toList.drop (pos + 1)) 0 = (r, j) := ⟨_, _, rfl⟩
        have hj2 := (readNum_le 16 2 (s.data.toList.drop (pos + 1)) 0).1
        rw [hrj] at hj2
        simp only at hj2
        have hhead : (s.data.toList.drop (pos + 1)).head? ≠ some 123 := by
          intro hh
          apply hbr
          rcases Nat.lt_or_ge (pos + 1) s.size with h1 | h1
          · rw [drop_at h1] at hh
            exact ⟨h1, Option.some.inj hh⟩
          · rw [drop_end h1] at hh; cases hh
        have hO := hexO_two hhead
        rw [hrj] at hO
        have HO := Lib.hid hO
        have HNUM2 : Hid (Calls Tryd.prog 76 #[.string s, .int .i64 ((pos : Int) + 1), .int .i64 16, .int .i64 2] w fun e w' => e = .returned (.tuple #[.int .i64 (capR r), .int .i64 ((pos : Int) + 1 + (j : Int))]) ∧ w' = w) := Lib.hid (number_any s (pos + 1) 16 2 r j (.inr rfl) (by unfold maxLen; omega) hsm (by omega) w hrj)
        have hq : (∃ h : pos + 1 < s.size, (((s[pos + 1]'h).toNat : Int) == 123) = false) ∨ ¬ pos + 1 < s.size := by
          by_cases h1 : pos + 1 < s.size
          · refine .inl ⟨h1, beq_false_of_ne (fun h => hbr ⟨h1, UInt8.toNat.inj (by rw [show (s[pos + 1]'h1).toNat = 123 by omega]; rfl)⟩)⟩
          · exact .inr h1
        clear hrj hO hhead hbr
        by_cases hj : j = 2
        · subst hj
          have HF : Hid (rescV pos (escapeL (s.data.toList.drop pos)) = .tuple #[.int .i64 (capR r), .int .i64 ((pos : Int) + 1 + 2)]) := Lib.hid (by
            rw [HE.out, HO.out, if_pos rfl]
            rfl)
          have h33 : (pos : Int) + 1 + 2 = (pos : Int) + 3 := by omega
          clear HE HO
          rcases hq with ⟨h1, hb⟩ | h1
          · have h1z : (pos : Int) + 1 < (s.size : Int) := by omega
            have h1n : ((pos : Int) + 1).toNat = pos + 1 := by omega
            have h10 : (0 : Int) ≤ (pos : Int) + 1 := by omega
            go_enter Tryd.func62, Tryd.ntmps62
            go_wp2_with fail
            refine (HNUM2.out).mono ?_
            rintro e w1 ⟨rfl, rfl⟩
            go_wp2_with fail
            go_ret2
            exact ⟨by rw [HF.out, h33]; rfl, Below.refl _ _⟩
          · have h1z : decide ((pos : Int) + 1 < (s.size : Int)) = false := by simp; omega
            go_enter Tryd.func62, Tryd.ntmps62
            go_wp2_with fail
            refine (HNUM2.out).mono ?_
            rintro e w1 ⟨rfl, rfl⟩
            go_wp2_with fail
            go_ret2
            exact ⟨by rw [HF.out, h33]; rfl, Below.refl _ _⟩
        · have HF : Hid (rescV pos (escapeL (s.data.toList.drop pos)) = .tuple #[.int .i64 (-1), .int .i64 pos]) := Lib.hid (by
            rw [HE.out, HO.out, if_neg hj]
            rfl)
          have hjz : ((pos : Int) + 1 + (j : Int) == (pos : Int) + 3) = false := beq_false_of_ne (by omega)
          have hjz2 : ((pos : Int) + 1 + (j : Int) != (pos : Int) + 3) = true := by simp; omega
          clear HE HO hj
          rcases hq with ⟨h1, hb⟩ | h1
          · have h1z : (pos : Int) + 1 < (s.size : Int) := by omega
            have h1n : ((pos : Int) + 1).toNat = pos + 1 := by omega
            have h10 : (0 : Int) ≤ (pos : Int) + 1 := by omega
            go_enter Tryd.func62, Tryd.ntmps62
            go_wp2_with fail
            refine (HNUM2.out).mono ?_
            rintro e w1 ⟨rfl, rfl⟩
            go_wp2_with fail
            go_ret2
            exact ⟨by rw [HF.out]; rfl, Below.refl _ _⟩
          · have h1z : decide ((pos : Int) + 1 < (s.size : Int)) = false := by simp; omega
            go_enter Tryd.func62, Tryd.ntmps62
            go_wp2_with fail
            refine (HNUM2.out).mono ?_
            rintro e w1 ⟨rfl, rfl⟩
            go_wp2_with fail
            go_ret2
            exact ⟨by rw [HF.out]; rfl, Below.refl _ _⟩
    · have e120 : ((n : Int) == 120) = false := beq_false_of_ne (by omega)
      have hc120 : c ≠ 120 := by rintro rfl; exact hx hn.symm
      by_cases hd : 48 ≤ n ∧ n ≤ 55
      · obtain ⟨h48, h55⟩ := hd
        obtain ⟨r, j, hrj⟩ : ∃ r j, readNum 8 3 (s.data.toList.drop pos) 0 = (r, j) := ⟨_, _, rfl⟩
        have HF : Hid (rescV pos (escapeL (s.data.toList.drop pos)) = .tuple #[.int .i64 (capR r), .int .i64 ((pos + j : Nat) : Int)]) := Lib.hid (by
          rw [hdr, esc_d c _ (by omega) (by omega), ← hdr, hrj]
          rfl)
        have HNUM := Lib.hid (number_any s pos 8 3 r j (.inl rfl) (by unfold maxLen; omega) hsm hp w hrj)
        clear hrj hdr hc hn hx hc120
        go_enter Tryd.func62, Tryd.ntmps62
        go_wp2_with fail
        refine (HNUM.out).mono ?_
        rintro e w1 ⟨rfl, rfl⟩
        go_wp2_with fail
        go_ret2
        exact ⟨by rw [HF.out]; rfl, Below.refl _ _⟩
      · have h3 : n < 48 ∨ 55 < n := by omega
        by_cases h94 : n = 94
        · subst h94
          have hc94 : c = 94 := UInt8.toNat.inj hn
          have HE : Hid (escapeL (s.data.toList.drop pos) = (ctrlO (s.data.toList.drop (pos + 1))).map fun p => (p.1, p.2 + 1)) := Lib.hid (by rw [HDR.out, hc94, esc_c])
          clear hc hn hdr hc94 hx hd hc120 h3
          by_cases h1 : pos + 1 < s.size
          · obtain ⟨d, hdd⟩ : ∃ d, s[pos + 1]'h1 = d := ⟨_, rfl⟩
            have hdz : (s[pos + 1]'h1).toNat = d.toNat := by rw [hdd]
            have h1z : decide ((s.size : Int) ≤ (pos : Int) + 1) = false := by simp; omega
            have h1y : (pos : Int) + 1 < (s.size : Int) := by omega
            have h1n : ((pos : Int) + 1).toNat = pos + 1 := by omega
            have h10 : (0 : Int) ≤ (pos : Int) + 1 := by omega
            have HCT : Hid (∀ w, Calls Tryd.prog 77 #[.int .u8 d.toNat] w fun e w' => e = .returned (.int .i64 (ctrlV d)) ∧ w' = w) := Lib.hid fun w => rcontrol_any d w
            have hO : ctrlO (s.data.toList.drop (pos + 1)) = (ctrl d).map fun v => (v, 1) := by rw [drop_at h1, hdd]; rfl
            have HO := Lib.hid hO
            clear hdd hO
            cases hct : ctrl d with
            | none =>
              have HV : Hid (ctrlV d = -1) := Lib.hid (by unfold ctrlV; rw [hct])
              have HF : Hid (rescV pos (escapeL (s.data.toList.drop pos)) = .tuple #[.int .i64 (-1), .int .i64 pos]) := Lib.hid (by rw [HE.out, HO.out, hct]; rfl)
              clear hct HE HO
              go_enter Tryd.func62, Tryd.ntmps62
              go_wp2_with fail
              refine (HCT.out _).mono ?_
              rintro e w1 ⟨rfl, rfl⟩
              rw [HV.out]
              go_wp2_with fail
              go_ret2
              exact ⟨by rw [HF.out]; rfl, Below.refl _ _⟩
            | some v =>
              have hv31 := (ctrl_le hct).1
              have HV : Hid (ctrlV d = (v : Int)) := Lib.hid (by unfold ctrlV; rw [hct])
              have HF : Hid (rescV pos (escapeL (s.data.toList.drop pos)) = .tuple #[.int .i64 v, .int .i64 ((pos : Int) + 2)]) := Lib.hid (by
                rw [HE.out, HO.out, hct]
                show Value.tuple #[.int .i64 (capR v), .int .i64 ((pos + 2 : Nat) : Int)] = _
                rw [capR_eq (by omega)]
                rfl)
              clear hct HE HO
              go_enter Tryd.func62, Tryd.ntmps62
              go_wp2_with fail
              refine (HCT.out _).mono ?_
              rintro e w1 ⟨rfl, rfl⟩
              rw [HV.out]
              go_wp2_with fail
              refine (HCT.out _).mono ?_
              rintro e w1 ⟨rfl, rfl⟩
              rw [HV.out]
              go_wp2_with fail
              go_ret2
              exact ⟨by rw [HF.out]; rfl, Below.refl _ _⟩
          · have h1z : decide ((s.size : Int) ≤ (pos : Int) + 1) = true := by simp; omega
            have HF : Hid (rescV pos (escapeL (s.data.toList.drop pos)) = .tuple #[.int .i64 (-1), .int .i64 pos]) := Lib.hid (by rw [HE.out, drop_end (by omega)]; rfl)
            clear HE
            go_enter Tryd.func62, Tryd.ntmps62
            go_wp2_with fail
            go_ret2
            exact ⟨by rw [HF.out]; rfl, Below.refl _ _⟩
        · have e94 : ((n : Int) == 94) = false := beq_false_of_ne (by omega)
          have hc94 : c ≠ 94 := by rintro rfl; exact h94 hn.symm
          obtain ⟨r, k, hrk⟩ : ∃ r k, decodeL (s.data.toList.drop pos) = (r, k) := ⟨_, _, rfl⟩
          have hrle : r ≤ 1114111 := by
            have := Lib.decodeL_rune (s.data.toList.drop pos)
            rw [hrk] at this
            exact this
          have HNA := Lib.hid (named_any s pos n r k hlt hs hcz hrk w)
          have HF : Hid (rescV pos (escapeL (s.data.toList.drop pos)) = namedV pos n r k) := Lib.hid (by
            rw [hdr, esc_n c _ hc120 hc94 (by rw [hn]; exact hd), hn, ← hdr, hrk]
            unfold namedV
            cases hu : unescF n with
            | some v =>
              show Value.tuple #[.int .i64 (capR v), .int .i64 ((pos + 1 : Nat) : Int)] = _
              rw [capR_eq (by have := unesc_le hu; omega)]
            | none =>
              dsimp only
              cases badD (r, k) with
              | true => rfl
              | false =>
                show Value.tuple #[.int .i64 (capR r), .int .i64 ((pos + k : Nat) : Int)] = _
                rw [capR_eq (by omega)]
                rfl)
          have HSH : Hid (∃ a b : Int, namedV pos n r k = .tuple #[.int .i64 a, .int .i64 b]) := Lib.hid (by
            unfold namedV
            cases unescF n with
            | some v => exact ⟨_, _, rfl⟩
            | none =>
              dsimp only
              cases badD (r, k) with
              | true => exact ⟨_, _, rfl⟩
              | false => exact ⟨_, _, rfl⟩)
          obtain ⟨a, b, hab⟩ := HSH.out
          have HAB := Lib.hid hab
          clear hrk hdr hc hn hx hd hc120 hc94 h94 hab HSH
          rcases h3 with h3 | h3
          all_goals
            go_enter Tryd.func62, Tryd.ntmps62
            go_wp2_with fail
            refine (HNA.out).mono ?_
            rintro e w1 ⟨rfl, hb1⟩
            rw [HAB.out]
            go_wp2_with fail
            go_ret2
            exact ⟨by rw [HF.out, HAB.out]; rfl, hb1⟩
  · have HF : Hid (rescV pos (escapeL (s.data.toList.drop pos)) = .tuple #[.int .i64 (-1), .int .i64 pos]) := Lib.hid (by rw [drop_end (by omega)]; rfl)
    have hz : decide (s.size ≤ pos) = true := by simp; omega
    go_enter Tryd.func62, Tryd.ntmps62
    go_wp2_with fail
    go_ret2
    exact ⟨by rw [HF.out]; rfl, Below.refl _ _⟩
end Go.Proofs.YtflbcijmfcmilaaDoor
