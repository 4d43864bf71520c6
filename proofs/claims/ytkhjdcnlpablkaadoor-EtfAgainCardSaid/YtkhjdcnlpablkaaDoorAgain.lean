/- EtfAgain: what is read is right, and what is written of it is read as the same. -/
import Derived.Test.YtkhjdcnlpablkaaDoorAw
import Derived.Test.YtkhjdcnlpablkaaDoorNz
namespace Go.Proofs.YtkhjdcnlpablkaaDoor
open Go.RowKit
open Go.Lib (byteCells)

set_option maxHeartbeats 1600000 in
set_option maxRecDepth 100000 in
theorem etfAgain_walk (l : List UInt8) (v : Value) (w : World) (hr : Rd w 1 v l.length (byteCells l)) (hT : Lib.Utf8Tabs 0 1 w) :
    Calls Tryd.prog 5 #[v] w fun e w' => e = .returned (.bool true) ∧ Below w.heap.size w w' := by
  have HT : Hid (∀ W, Below w.heap.size w W → Lib.Utf8Tabs 0 1 W) := Lib.hid (fun W h => tabs_below hT (Nat.le_refl _) h)
  have HD := Lib.hid (Decode_any l v w hr HT.out)
  clear hr hT
  cases hX : decD l with
  | bad e0 p0 =>
    have he := nz_dec l _ _ hX
    have HX := Lib.hid hX
    have q1 : ((e0 : Int) == 0) = false := by simp; omega
    have q2 : ((e0 : Int) != 0) = true := by simp; omega
    clear he hX
    go_enter Tryd.func5, Tryd.ntmps5
    go_wp2_with fail
    refine (HD.out).mono ?_
    rintro e w1 ⟨hd, hbe1⟩
    obtain rfl := hd.badE HX.out
    have HBE1 := Lib.hid hbe1
    have HAW := Lib.hid (awake_any w1 (fun W hW => HT.out W (hbe1.trans (hW.mono hbe1.size))))
    clear hd hbe1 HD
    go_wp2_with fail
    refine (HAW.out).mono ?_
    rintro e w2 ⟨rfl, hbe2⟩
    have HBE2 := Lib.hid (HBE1.out.trans (hbe2.mono HBE1.out.size))
    clear hbe2 HAW
    go_wp2_with fail
    go_ret
    exact ⟨rfl, HBE2.out⟩
  | ok t =>
    obtain ⟨hright, hok⟩ := dec_right hX
    have HX := Lib.hid hX
    have HR := Lib.hid hright
    have HOK := Lib.hid hok
    have HENC := Lib.hid (enc_dec hright hok.num)
    clear hX hright hok
    go_enter Tryd.func5, Tryd.ntmps5
    go_wp2_with fail
    refine (HD.out).mono ?_
    rintro e w1 ⟨hd, hbe1⟩
    obtain ⟨v1, rfl, hs1, _⟩ := hd.okE HX.out
    have HBE1 := Lib.hid hbe1
    have HR1 := Lib.hid hs1.rd
    have h17 := rright_t t v1 HOK.out.txt w1 hs1.rd
    rw [HR.out] at h17
    have H17 := Lib.hid h17
    obtain ⟨ao1, cap1, rfl, _, _⟩ := hs1.shape
    clear hd hbe1 HD hs1 h17
    go_wp2_with fail
    refine (H17.out).mono ?_
    rintro e w2 ⟨rfl, hbe2⟩
    have HBE2 := Lib.hid (HBE1.out.trans (hbe2.mono HBE1.out.size))
    have HR2 := Lib.hid (HR1.out.below (Nat.le_refl _) hbe2)
    have h16 := Encode_any t _ HOK.out w2 HR2.out (HT.out _ HBE2.out)
    rw [HR.out] at h16
    have H16 := Lib.hid h16
    clear hbe2 HBE1 HR1 H17 h16
    go_wp2_with fail
    refine (H16.out).mono ?_
    rintro e w3 ⟨v3, rfl, hb3, hbe3⟩
    have HBE3 := Lib.hid (HBE2.out.trans (hbe3.mono HBE2.out.size))
    have HR3 := Lib.hid (HR2.out.below (Nat.le_refl _) hbe3)
    have H10 := Lib.hid (Decode_any _ v3 w3 hb3.sl.rd (fun W hW => HT.out W (HBE3.out.trans (hW.mono HBE3.out.size))))
    obtain ⟨ao3, cap3, rfl, _, _⟩ := hb3.shape
    clear hb3 hbe3 HBE2 HR2 H16
    go_wp2_with fail
    refine (H10.out).mono ?_
    rintro e w4 ⟨hd, hbe4⟩
    obtain ⟨v4, rfl, hs4, _⟩ := hd.okE HENC.out.1
    have HBE4 := Lib.hid (HBE3.out.trans (hbe4.mono HBE3.out.size))
    have H12 := Lib.hid (same_any t t _ _ w4 (HR3.out.below (Nat.le_refl _) hbe4) hs4.rd)
    clear hs4 hbe4 hd HBE3 HR3 H10
    go_wp2_with fail
    refine (H12.out).mono ?_
    rintro e w5 ⟨b, rfl, hb, hbe5⟩
    obtain rfl : b = true := hb.2 (by trivial)
    have HBE5 := Lib.hid (HBE4.out.trans (hbe5.mono HBE4.out.size))
    have HAW := Lib.hid (awake_any w5 (fun W hW => HT.out W (HBE5.out.trans (hW.mono HBE5.out.size))))
    clear hb hbe5 HBE4 H12
    go_wp2_with fail
    refine (HAW.out).mono ?_
    rintro e w6 ⟨rfl, hbe6⟩
    have HBE6 := Lib.hid (HBE5.out.trans (hbe6.mono HBE5.out.size))
    clear hbe6 HAW
    go_wp2_with fail
    go_ret
    exact ⟨rfl, HBE6.out⟩
end Go.Proofs.YtkhjdcnlpablkaaDoor
