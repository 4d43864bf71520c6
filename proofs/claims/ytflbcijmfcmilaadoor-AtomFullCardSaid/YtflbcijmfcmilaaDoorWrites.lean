/- AtomWrites: any text. -/
import Derived.Test.YtflbcijmfcmilaaDoorQuote2
namespace Go.Proofs.YtflbcijmfcmilaaDoor
open Go.RowKit
open Go.Lib (decodeL validD encodeRune)

set_option maxHeartbeats 1600000 in
set_option maxRecDepth 100000 in
theorem rquote_any (s : ByteArray) (w : World) (hs : s.size ≤ maxLen) :
    Calls Tryd.prog 12 #[.string s] w fun e w' => e = .returned (.tuple #[.string (quoteS s), .int .i64 (rightN s.data.toList)]) ∧ Below w.heap.size w w' := by
  cases hr : rightL s.data.toList with
  | false =>
    have h1 : rightN s.data.toList = 20 := by unfold rightN; rw [hr]; rfl
    have HF : Hid (quoteS s = ⟨#[]⟩) := Lib.hid (by unfold quoteS; rw [hr]; rfl)
    have HR := Lib.hid h1
    have HRC := Lib.hid (rright_any s w hs)
    clear hr h1
    go_enter Tryd.func12, Tryd.ntmps12
    go_wp2_with fail
    refine (HRC.out).mono ?_
    rintro e w1 ⟨rfl, hb1⟩
    rw [HR.out]
    go_wp2_with fail
    go_ret2
    exact ⟨by rw [HF.out, HR.out]; rfl, hb1⟩
  | true =>
    have h1 : rightN s.data.toList = 0 := by unfold rightN; rw [hr]; rfl
    obtain ⟨h255, hv⟩ := right_size hr
    cases hb : bareL s.data.toList with
    | false =>
      refine (rquote_loop s w h255 hv hb).mono ?_
      rintro e w' ⟨rfl, hb'⟩
      refine ⟨?_, hb'⟩
      unfold quoteS
      rw [hr, hb, h1]
      rfl
    | true =>
      have HF : Hid (quoteS s = s) := Lib.hid (by unfold quoteS; rw [hr, hb]; rfl)
      have HR := Lib.hid h1
      have HBA := Lib.hid hb
      have HRC := Lib.hid (rright_any s w hs)
      clear hr h1 hv hb
      go_enter Tryd.func12, Tryd.ntmps12
      go_wp2_with fail
      refine (HRC.out).mono ?_
      rintro e w1 ⟨rfl, hb1⟩
      rw [HR.out]
      go_wp2_with fail
      refine (rbare_any s _ hs).mono ?_
      rintro e w1' ⟨rfl, rfl⟩
      rw [HBA.out]
      go_wp2_with fail
      go_ret2
      exact ⟨by rw [HF.out, HR.out]; rfl, hb1⟩

set_option maxHeartbeats 1600000 in
set_option maxRecDepth 100000 in
theorem atomWrites_walk (s : ByteArray) (hs : s.size ≤ maxLen) (w : World) (hT : Lib.Utf8Tabs 0 1 w) (hT2 : Tz16 w) : Calls Tryd.prog 3 #[.string s] w fun e w' => e = .returned (.bool true) ∧ Below w.heap.size w w' := by
  have HT := Lib.hid hT
  have HT2 := Lib.hid hT2
  obtain ⟨q, hq⟩ : ∃ q, quoteS s = q := ⟨_, rfl⟩
  obtain ⟨z, hz⟩ : ∃ z, rightN s.data.toList = z := ⟨_, rfl⟩
  obtain ⟨b, hb⟩ : ∃ b, bareL s.data.toList = b := ⟨_, rfl⟩
  have HQ := Lib.hid hq
  have HZ := Lib.hid hz
  have HB := Lib.hid hb
  clear hT hT2 hq hz hb
  go_enter Tryd.func3, Tryd.ntmps3
  go_wp2_with fail
  refine (quote_any s _ hs HT.out HT2.out).mono ?_
  rintro e w1 ⟨rfl, hb1⟩
  rw [HQ.out, HZ.out]
  go_wp2_with fail
  refine (rquote_any s _ hs).mono ?_
  rintro e w2 ⟨rfl, hb2⟩
  rw [HQ.out, HZ.out]
  have hbw2 := hb1.trans (hb2.mono hb1.size)
  go_wp2_with fail
  refine (right_any s _ hs (tabs_below HT.out (Nat.le_refl _) hbw2)).mono ?_
  rintro e w3 ⟨rfl, hb3⟩
  rw [HZ.out]
  have hbw3 := hbw2.trans (hb3.mono hbw2.size)
  go_wp2_with fail
  refine (rright_any s _ hs).mono ?_
  rintro e w4 ⟨rfl, hb4⟩
  rw [HZ.out]
  have hbw4 := hbw3.trans (hb4.mono hbw3.size)
  go_wp2_with fail
  refine (bare_any s _ hs).mono ?_
  rintro e w5 ⟨rfl, rfl⟩
  rw [HB.out]
  go_wp2_with fail
  refine (rbare_any s _ hs).mono ?_
  rintro e w5' ⟨rfl, rfl⟩
  rw [HB.out]
  go_wp2_with fail
  refine (awake_any _).mono ?_
  rintro e w6 ⟨rfl, hb6⟩
  go_wp2_with fail
  go_ret
  exact ⟨rfl, hbw4.trans (hb6.mono hbw4.size)⟩
end Go.Proofs.YtflbcijmfcmilaaDoor
