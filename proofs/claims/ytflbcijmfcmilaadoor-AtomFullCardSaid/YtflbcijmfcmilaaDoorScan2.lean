/- Scan and Unquote of any text. -/
import Derived.Test.YtflbcijmfcmilaaDoorScan
namespace Go.Proofs.YtflbcijmfcmilaaDoor
open Go.RowKit
open Go.Lib (decodeL encodeRune validD)

theorem ext_take (s : ByteArray) (p m : Nat) : s.extract p (p + m) = ⟨((s.data.toList.drop p).take m).toArray⟩ := by
  apply ByteArray.ext
  apply Array.toList_inj.1
  rw [Lib.extract_data, show p + m - p = m by omega]

set_option maxHeartbeats 3200000 in
set_option maxRecDepth 100000 in
theorem scan_bare (s : ByteArray) (pos : Nat) (w : World) (hs : s.size ≤ maxLen) (hp : pos ≤ s.size) (hc : (s.data.toList.drop pos).head? ≠ some 39) :
    Calls Tryd.prog 18 #[.string s, .int .i64 pos] w fun e w' => e = .returned (resV (scanR s pos)) ∧ w' = w := by
  have hs' := hs
  unfold maxLen at hs'
  obtain ⟨m, hm⟩ : ∃ m, runTo (s.data.toList.drop pos) = m := ⟨_, rfl⟩
  have hml : pos + m ≤ s.size := by
    have := runTo_le (s.data.toList.drop pos)
    rw [hm, List.length_drop] at this
    have hl : s.data.toList.length = s.size := by simp
    omega
  have hO : scanR s pos = if m = 0 ∨ resL ((s.data.toList.drop pos).take m) = true then ([], 0, 70) else if 255 < m then ([], 0, 20) else ((s.data.toList.drop pos).take m, pos + m, 0) := by
    unfold scanR
    rw [if_neg hc, hm]
  have hrun := run_any s pos w hp hs
  rw [hm] at hrun
  have HRUN := Lib.hid hrun
  have HO := Lib.hid hO
  have hext := ext_take s pos m
  have HEXT := Lib.hid hext
  have hq : (pos < s.size ∧ decide (pos < s.size) = true ∧ ∀ h : pos < s.size, (((s[pos]'h).toNat : Int) == 39) = false) ∨ (¬ pos < s.size ∧ decide (pos < s.size) = false) := by
    by_cases h : pos < s.size
    · refine .inl ⟨h, by simp; omega, fun h' => ?_⟩
      simp
      intro hh
      apply hc
      rw [drop_at h]
      simp
      exact UInt8.toNat.inj (by rw [show (s[pos]'h).toNat = 39 by omega]; rfl)
    · exact .inr ⟨h, by simp; omega⟩
  clear hrun hO hc hm hext
  by_cases h0 : m = 0
  · have HF : Hid (resV (scanR s pos) = .tuple #[.string ⟨#[]⟩, .int .i64 0, .int .i64 70]) := Lib.hid (by rw [HO.out, if_pos (.inl h0)]; rfl)
    subst h0
    clear HO
    rcases hq with ⟨hlt, hkm, hcz⟩ | ⟨hlt, hkm⟩
    · have hcz := hcz hlt
      go_enter Tryd.func18, Tryd.ntmps18
      go_wp2_with fail
      refine (HRUN.out).mono ?_
      rintro e w1 ⟨rfl, rfl⟩
      go_wp2_with fail
      go_ret3
      exact ⟨by rw [HF.out]; rfl, rfl⟩
    · go_enter Tryd.func18, Tryd.ntmps18
      go_wp2_with fail
      refine (HRUN.out).mono ?_
      rintro e w1 ⟨rfl, rfl⟩
      go_wp2_with fail
      go_ret3
      exact ⟨by rw [HF.out]; rfl, rfl⟩
  · rcases hq with ⟨hlt, hkm, hcz⟩ | ⟨hlt, hkm⟩
    · have hcz := hcz hlt
      have e0 : ((pos : Int) + (m : Int) == (pos : Int)) = false := by simp; omega
      have hpi : (pos : Int) ≤ (pos : Int) + (m : Int) := by omega
      have hpi2 : (pos : Int) + (m : Int) ≤ (s.size : Int) := by omega
      have hmi : (pos : Int) + (m : Int) - (pos : Int) = (m : Int) := by omega
      have htn : ((pos : Int) + (m : Int)).toNat = pos + m := by omega
      obtain ⟨b, hb⟩ : ∃ b, resL ((s.data.toList.drop pos).take m) = b := ⟨_, rfl⟩
      have HB := Lib.hid hb
      clear hb
      have HRES : Hid (∀ w : World, Calls Tryd.prog 45 #[.string (s.extract pos (pos + m))] w fun e w' => e = .returned (.bool b) ∧ w' = w) := Lib.hid fun w => by
        have := res45_any (s.extract pos (pos + m)) w
        rw [Lib.extract_data, show pos + m - pos = m by omega, HB.out] at this
        exact this
      cases b with
      | true =>
        have HF : Hid (resV (scanR s pos) = .tuple #[.string ⟨#[]⟩, .int .i64 0, .int .i64 70]) := Lib.hid (by rw [HO.out, if_pos (.inr HB.out)]; rfl)
        clear HO
        go_enter Tryd.func18, Tryd.ntmps18
        go_wp2_with fail
        refine (HRUN.out).mono ?_
        rintro e w1 ⟨rfl, rfl⟩
        rw [show ((pos + m : Nat) : Int) = (pos : Int) + (m : Int) from rfl]
        go_wp2_with fail
        refine (HRES.out _).mono ?_
        rintro e w1 ⟨rfl, rfl⟩
        go_wp2_with fail
        go_ret3
        exact ⟨by rw [HF.out]; rfl, rfl⟩
      | false =>
        by_cases h255 : 255 < m
        · have HF : Hid (resV (scanR s pos) = .tuple #[.string ⟨#[]⟩, .int .i64 0, .int .i64 20]) := Lib.hid (by rw [HO.out, if_neg (by rw [HB.out]; simp; omega), if_pos h255]; rfl)
          clear HO
          go_enter Tryd.func18, Tryd.ntmps18
          go_wp2_with fail
          refine (HRUN.out).mono ?_
          rintro e w1 ⟨rfl, rfl⟩
          rw [show ((pos + m : Nat) : Int) = (pos : Int) + (m : Int) from rfl]
          go_wp2_with fail
          refine (HRES.out _).mono ?_
          rintro e w1 ⟨rfl, rfl⟩
          go_wp2_with fail
          go_ret3
          exact ⟨by rw [HF.out]; rfl, rfl⟩
        · have HF : Hid (resV (scanR s pos) = .tuple #[.string (s.extract pos (pos + m)), .int .i64 ((pos : Int) + (m : Int)), .int .i64 0]) := Lib.hid (by rw [HO.out, if_neg (by rw [HB.out]; simp; omega), if_neg h255, HEXT.out]; rfl)
          clear HO
          go_enter Tryd.func18, Tryd.ntmps18
          go_wp2_with fail
          refine (HRUN.out).mono ?_
          rintro e w1 ⟨rfl, rfl⟩
          rw [show ((pos + m : Nat) : Int) = (pos : Int) + (m : Int) from rfl]
          go_wp2_with fail
          refine (HRES.out _).mono ?_
          rintro e w1 ⟨rfl, rfl⟩
          go_wp2_with fail
          go_ret3
          exact ⟨by rw [HF.out]; rfl, rfl⟩
    · exfalso
      omega

/-- Scan's answer at any number. -/
def scanV (s : ByteArray) (at' : Int) : List UInt8 × Nat × Nat := if at' < 0 ∨ (s.size : Int) < at' then ([], 0, 1) else scanR s at'.toNat

set_option maxHeartbeats 1600000 in
theorem scan_any (s : ByteArray) (at' : Int) (w : World) (hs : s.size ≤ maxLen) (hT : Lib.Utf8Tabs 0 1 w) (hb : Bnd s (quotedR s at'.toNat)) :
    Calls Tryd.prog 18 #[.string s, .int .i64 at'] w fun e w' => e = .returned (resV (scanV s at')) ∧ Below w.heap.size w w' := by
  by_cases h : at' < 0 ∨ (s.size : Int) < at'
  · have HF : Hid (resV (scanV s at') = .tuple #[.string ⟨#[]⟩, .int .i64 0, .int .i64 1]) := Lib.hid (by unfold scanV; rw [if_pos h]; rfl)
    by_cases h1 : at' < 0
    · clear h hT hb
      go_enter Tryd.func18, Tryd.ntmps18
      go_wp2_with fail
      go_ret3
      exact ⟨by rw [HF.out]; rfl, Below.refl _ _⟩
    · have h2 : (s.size : Int) < at' := by omega
      have h1' : decide (at' < 0) = false := by simpa using h1
      clear h hT hb
      go_enter Tryd.func18, Tryd.ntmps18
      go_wp2_with fail
      go_ret3
      exact ⟨by rw [HF.out]; rfl, Below.refl _ _⟩
  · obtain ⟨p, rfl⟩ : ∃ p : Nat, at' = p := ⟨at'.toNat, by omega⟩
    have hF : scanV s p = scanR s p := by unfold scanV; rw [if_neg h]; rfl
    rw [hF]
    by_cases hc : (s.data.toList.drop p).head? = some 39
    · have hlt : p < s.size := by
        rcases Nat.lt_or_ge p s.size with h' | h'
        · exact h'
        · rw [drop_end h'] at hc; cases hc
      have hR : scanR s p = qRes (quotedR s p) := by unfold scanR; rw [if_pos hc]
      rw [hR]
      rw [drop_at hlt] at hc
      exact scan_quote s p w hs hlt (Option.some.inj hc) hT hb
    · refine (scan_bare s p w hs (by omega) hc).mono ?_
      rintro e w' ⟨he, rfl⟩
      exact ⟨he, Below.refl _ _⟩

/-- Unquote's answer: the text, the error, the place. -/
def unqV (s : ByteArray) : Value :=
  if 65536 < s.size then .tuple #[.string ⟨#[]⟩, .int .i64 4, .int .i64 0]
  else if (scanR s 0).2.2 ≠ 0 then .tuple #[.string ⟨#[]⟩, .int .i64 (scanR s 0).2.2, .int .i64 0]
  else if (scanR s 0).2.1 < s.size then .tuple #[.string ⟨#[]⟩, .int .i64 63, .int .i64 (scanR s 0).2.1]
  else .tuple #[.string ⟨(scanR s 0).1.toArray⟩, .int .i64 0, .int .i64 0]

set_option maxHeartbeats 1600000 in
set_option maxRecDepth 100000 in
theorem unquote_any (s : ByteArray) (w : World) (hs : s.size ≤ maxLen) (hT : Lib.Utf8Tabs 0 1 w) :
    Calls Tryd.prog 20 #[.string s] w fun e w' => e = .returned (unqV s) ∧ Below w.heap.size w w' := by
  by_cases h : 65536 < s.size
  · have HF : Hid (unqV s = .tuple #[.string ⟨#[]⟩, .int .i64 4, .int .i64 0]) := Lib.hid (by unfold unqV; rw [if_pos h])
    clear hT
    go_enter Tryd.func20, Tryd.ntmps20
    go_wp2_with fail
    go_ret3
    exact ⟨by rw [HF.out]; rfl, Below.refl _ _⟩
  · have hsc := scan_any s 0 w hs hT (.inl (by omega))
    obtain ⟨l, n, e0, hl⟩ : ∃ l n e0, scanR s 0 = (l, n, e0) := ⟨_, _, _, rfl⟩
    have hv : scanV s 0 = (l, n, e0) := by unfold scanV; rw [if_neg (by omega)]; exact hl
    rw [hv] at hsc
    have HSC : Hid (Calls Tryd.prog 18 #[.string s, .int .i64 0] w fun e w' => e = .returned (.tuple #[.string ⟨l.toArray⟩, .int .i64 n, .int .i64 e0]) ∧ Below w.heap.size w w') := Lib.hid hsc
    have hU : unqV s = if e0 ≠ 0 then .tuple #[.string ⟨#[]⟩, .int .i64 e0, .int .i64 0] else if n < s.size then .tuple #[.string ⟨#[]⟩, .int .i64 63, .int .i64 n] else .tuple #[.string ⟨l.toArray⟩, .int .i64 0, .int .i64 0] := by
      unfold unqV
      rw [if_neg h, hl]
    have HU := Lib.hid hU
    clear hsc hl hv hT hU
    by_cases h0 : e0 = 0
    · subst h0
      by_cases hn : n < s.size
      · have HF : Hid (unqV s = .tuple #[.string ⟨#[]⟩, .int .i64 63, .int .i64 n]) := Lib.hid (by rw [HU.out, if_neg (by simp), if_pos hn])
        clear HU
        go_enter Tryd.func20, Tryd.ntmps20
        go_wp2_with fail
        refine (HSC.out).mono ?_
        rintro e w1 ⟨rfl, hb1⟩
        go_wp2_with fail
        go_ret3
        exact ⟨by rw [HF.out]; rfl, hb1⟩
      · have HF : Hid (unqV s = .tuple #[.string ⟨l.toArray⟩, .int .i64 0, .int .i64 0]) := Lib.hid (by rw [HU.out, if_neg (by simp), if_neg hn])
        clear HU
        go_enter Tryd.func20, Tryd.ntmps20
        go_wp2_with fail
        refine (HSC.out).mono ?_
        rintro e w1 ⟨rfl, hb1⟩
        go_wp2_with fail
        go_ret3
        exact ⟨by rw [HF.out]; rfl, hb1⟩
    · have HF : Hid (unqV s = .tuple #[.string ⟨#[]⟩, .int .i64 e0, .int .i64 0]) := Lib.hid (by rw [HU.out, if_pos h0])
      have ez : ((e0 : Int) == 0) = false := by simp; omega
      have ez2 : ((e0 : Int) != 0) = true := by simp; omega
      clear HU h0
      go_enter Tryd.func20, Tryd.ntmps20
      go_wp2_with fail
      refine (HSC.out).mono ?_
      rintro e w1 ⟨rfl, hb1⟩
      go_wp2_with fail
      go_ret3
      exact ⟨by rw [HF.out]; rfl, hb1⟩
end Go.Proofs.YtflbcijmfcmilaaDoor
