/- EtfBack: terms and bytes there and back. -/
import Derived.Test.YtkhjdcnlpablkaaDoorAw
namespace Go.Proofs.YtkhjdcnlpablkaaDoor
open Go.RowKit
open Go.Lib (byteCells)

theorem enc_inj {t u : List Ce} (ht : rightT t = (0, 0)) (hk : ∀ c ∈ t, c.i64) (hu : rightT u = (0, 0)) (hk2 : ∀ c ∈ u, c.i64) : encV t = encV u ↔ t = u := by
  refine ⟨fun h => ?_, fun h => by rw [h]⟩
  have h1 := (enc_dec ht hk).1
  have h2 := (enc_dec hu hk2).1
  rw [h, h2] at h1
  exact (Res.ok.inj h1).symm

set_option maxHeartbeats 1600000 in
set_option maxRecDepth 100000 in
theorem back_bad (t u : List Ce) (tv uv : Value) (hk : OkCes t) (hk2 : OkCes u) (w : World) (hr1 : Rd w 3 tv t.length (cvs t)) (hr2 : Rd w 3 uv u.length (cvs u)) (hT : Lib.Utf8Tabs 0 1 w) (h0 : ¬ (rightT t).1 = 0) :
    Calls Tryd.prog 4 #[tv, uv] w fun e w' => e = .returned (.bool true) ∧ Below w.heap.size w w' := by
  have HT : Hid (∀ W, Below w.heap.size w W → Lib.Utf8Tabs 0 1 W) := Lib.hid (fun W h => tabs_below hT (Nat.le_refl _) h)
  have HK2 := Lib.hid hk2
  have HKZ := Lib.hid hk.txt
  have HKN := Lib.hid hk.num
  have HR1 := Lib.hid hr1
  have HR2 := Lib.hid hr2
  have HE1 := Lib.hid (Encode_any t tv hk w hr1 hT)
  have HV1 := Lib.hid (encV_bad h0)
  obtain ⟨e1, he1⟩ : ∃ e1, (rightT t).1 = e1 := ⟨_, rfl⟩
  rw [he1] at h0 HE1
  rw [HV1.out] at HE1
  have HX1 := Lib.hid he1
  have q1 : ((e1 : Int) == 0) = false := by simp; omega
  have q2 : ((e1 : Int) != 0) = true := by simp; omega
  clear h0 he1
  clear hr1 hr2 hT hk hk2
  go_enter Tryd.func4, Tryd.ntmps4
  go_wp2_with fail
  refine (HE1.out).mono ?_
  rintro e w1 ⟨v1, rfl, hb1, hbe1⟩
  have HB1 := Lib.hid hb1
  have HBE1 := Lib.hid hbe1
  have HE2 := Lib.hid (Encode_any u uv HK2.out w1 (HR2.out.below (Nat.le_refl _) hbe1) (HT.out _ hbe1))
  obtain ⟨ao1, cap1, rfl, _, _⟩ := hb1.shape
  clear hb1 hbe1 HE1
  obtain ⟨e2, he2⟩ : ∃ e2, (rightT u).1 = e2 := ⟨_, rfl⟩
  rw [he2] at HE2
  clear he2
  go_wp2_with fail
  refine (HE2.out).mono ?_
  rintro e w2 ⟨v2, rfl, hb2, hbe2⟩
  have hbe02 : Below w.heap.size w w2 := HBE1.out.trans (hbe2.mono HBE1.out.size)
  have HB1b := Lib.hid (HB1.out.below hbe2)
  have HB2 := Lib.hid hb2
  have HBE2 := Lib.hid hbe02
  have HE3 := Lib.hid (rright_t t tv HKZ.out w2 (HR1.out.below (Nat.le_refl _) hbe02))
  rw [HX1.out] at HE3
  obtain ⟨ao2, cap2, rfl, _, _⟩ := hb2.shape
  obtain ⟨e3, he3⟩ : ∃ e3, (rightT t).2 = e3 := ⟨_, rfl⟩
  rw [he3] at HE3
  clear hb2 hbe2 hbe02 HE2 HBE1 HB1 he3
  go_wp2_with fail
  refine (HE3.out).mono ?_
  rintro e w3 ⟨rfl, hbe3⟩
  have HB1c := Lib.hid (HB1b.out.below hbe3)
  have HB2c := Lib.hid (HB2.out.below hbe3)
  have hbe03 : Below w.heap.size w w3 := HBE2.out.trans (hbe3.mono HBE2.out.size)
  have HBE3 := Lib.hid hbe03
  have HAW := Lib.hid (awake_any w3 (fun W hW => HT.out W (HBE3.out.trans (hW.mono HBE3.out.size))))
  clear hbe3 hbe03 HBE2 HE3 HB1b HB2
  go_wp2_with fail
  refine (HAW.out).mono ?_
  rintro e w4 ⟨rfl, hbe4⟩
  have HBE4 := Lib.hid (HBE3.out.trans (hbe4.mono HBE3.out.size))
  clear hbe4 HAW
  go_wp2_with fail

  go_ret
  exact ⟨rfl, HBE4.out⟩

set_option maxHeartbeats 1600000 in
set_option maxRecDepth 100000 in
theorem back_half (t u : List Ce) (tv uv : Value) (hk : OkCes t) (hk2 : OkCes u) (w : World) (hr1 : Rd w 3 tv t.length (cvs t)) (hr2 : Rd w 3 uv u.length (cvs u)) (hT : Lib.Utf8Tabs 0 1 w) (h0 : (rightT t).1 = 0) (hu : ¬ (rightT u).1 = 0) :
    Calls Tryd.prog 4 #[tv, uv] w fun e w' => e = .returned (.bool true) ∧ Below w.heap.size w w' := by
  have HT : Hid (∀ W, Below w.heap.size w W → Lib.Utf8Tabs 0 1 W) := Lib.hid (fun W h => tabs_below hT (Nat.le_refl _) h)
  have HK2 := Lib.hid hk2
  have HKZ := Lib.hid hk.txt
  have HKN := Lib.hid hk.num
  have HR1 := Lib.hid hr1
  have HR2 := Lib.hid hr2
  have HE1 := Lib.hid (Encode_any t tv hk w hr1 hT)
  have hr := right_zero h0
  have HV1 := Lib.hid (enc_dec hr hk.num)
  rw [h0] at HE1
  have HX1 := Lib.hid h0
  have H0R := Lib.hid hr
  clear h0 hr
  obtain ⟨e2, he2⟩ : ∃ e2, (rightT u).1 = e2 := ⟨_, rfl⟩
  have HU0 := Lib.hid he2
  rw [he2] at hu
  have q3 : ((e2 : Int) == 0) = false := by simp; omega
  have q4 : ((e2 : Int) != 0) = true := by simp; omega
  clear he2 hu
  clear hr1 hr2 hT hk hk2
  go_enter Tryd.func4, Tryd.ntmps4
  go_wp2_with fail
  refine (HE1.out).mono ?_
  rintro e w1 ⟨v1, rfl, hb1, hbe1⟩
  have HB1 := Lib.hid hb1
  have HBE1 := Lib.hid hbe1
  have HE2 := Lib.hid (Encode_any u uv HK2.out w1 (HR2.out.below (Nat.le_refl _) hbe1) (HT.out _ hbe1))
  obtain ⟨ao1, cap1, rfl, _, _⟩ := hb1.shape
  clear hb1 hbe1 HE1
  rw [HU0.out] at HE2
  go_wp2_with fail
  refine (HE2.out).mono ?_
  rintro e w2 ⟨v2, rfl, hb2, hbe2⟩
  have hbe02 : Below w.heap.size w w2 := HBE1.out.trans (hbe2.mono HBE1.out.size)
  have HB1b := Lib.hid (HB1.out.below hbe2)
  have HB2 := Lib.hid hb2
  have HBE2 := Lib.hid hbe02
  have HE3 := Lib.hid (rright_t t tv HKZ.out w2 (HR1.out.below (Nat.le_refl _) hbe02))
  rw [HX1.out] at HE3
  obtain ⟨ao2, cap2, rfl, _, _⟩ := hb2.shape
  obtain ⟨e3, he3⟩ : ∃ e3, (rightT t).2 = e3 := ⟨_, rfl⟩
  rw [he3] at HE3
  clear hb2 hbe2 hbe02 HE2 HBE1 HB1 he3
  go_wp2_with fail
  refine (HE3.out).mono ?_
  rintro e w3 ⟨rfl, hbe3⟩
  have HB1c := Lib.hid (HB1b.out.below hbe3)
  have HB2c := Lib.hid (HB2.out.below hbe3)
  have hbe03 : Below w.heap.size w w3 := HBE2.out.trans (hbe3.mono HBE2.out.size)
  have HBE3 := Lib.hid hbe03
  have HD := Lib.hid (Decode_any _ _ w3 HB1c.out.sl.rd (fun W hW => HT.out W (hbe03.trans (hW.mono hbe03.size))))
  clear hbe3 hbe03 HBE2 HE3 HB1b HB2
  go_wp2_with fail
  refine (HD.out).mono ?_
  rintro e w4 ⟨hd, hbe4⟩
  obtain ⟨v4, rfl, hs4, _⟩ := hd.okE HV1.out.1
  have hbe04 : Below w.heap.size w w4 := HBE3.out.trans (hbe4.mono HBE3.out.size)
  have HBE4 := Lib.hid hbe04
  have HB1d := Lib.hid (HB1c.out.below hbe4)
  have HB2d := Lib.hid (HB2c.out.below hbe4)
  have HS := Lib.hid (same_any t t _ _ w4 hs4.rd (HR1.out.below (Nat.le_refl _) hbe04))
  clear hs4 hbe4 hbe04 hd HBE3 HD HB1c HB2c
  go_wp2_with fail
  refine (HS.out).mono ?_
  rintro e w5 ⟨b, rfl, hb, hbe5⟩
  obtain rfl : b = true := hb.2 (by trivial)
  have hbe05 : Below w.heap.size w w5 := HBE4.out.trans (hbe5.mono HBE4.out.size)
  have HBE5 := Lib.hid hbe05
  have HB1e := Lib.hid (HB1d.out.below hbe5)
  have HB2e := Lib.hid (HB2d.out.below hbe5)
  have HR1e := Lib.hid (HR1.out.below (Nat.le_refl _) hbe05)
  have HR2e := Lib.hid (HR2.out.below (Nat.le_refl _) hbe05)
  have HAW := Lib.hid (awake_any w5 (fun W hW => HT.out W (HBE5.out.trans (hW.mono HBE5.out.size))))
  clear hb hbe5 hbe05 HBE4 HS HB1d HB2d
  go_wp2_with fail
  refine (HAW.out).mono ?_
  rintro e w6 ⟨rfl, hbe6⟩
  have HBE6 := Lib.hid (HBE5.out.trans (hbe6.mono HBE5.out.size))
  clear hbe6 HAW
  go_wp2_with fail
  go_ret
  exact ⟨rfl, HBE6.out⟩

set_option maxHeartbeats 1600000 in
set_option maxRecDepth 100000 in
theorem back_eq (t u : List Ce) (tv uv : Value) (hk : OkCes t) (hk2 : OkCes u) (w : World) (hr1 : Rd w 3 tv t.length (cvs t)) (hr2 : Rd w 3 uv u.length (cvs u)) (hT : Lib.Utf8Tabs 0 1 w) (h0 : (rightT t).1 = 0) (hu : (rightT u).1 = 0) (heq : t = u) :
    Calls Tryd.prog 4 #[tv, uv] w fun e w' => e = .returned (.bool true) ∧ Below w.heap.size w w' := by
  have HT : Hid (∀ W, Below w.heap.size w W → Lib.Utf8Tabs 0 1 W) := Lib.hid (fun W h => tabs_below hT (Nat.le_refl _) h)
  have HK2 := Lib.hid hk2
  have HKZ := Lib.hid hk.txt
  have HKN := Lib.hid hk.num
  have HR1 := Lib.hid hr1
  have HR2 := Lib.hid hr2
  have HE1 := Lib.hid (Encode_any t tv hk w hr1 hT)
  have hr := right_zero h0
  have HV1 := Lib.hid (enc_dec hr hk.num)
  rw [h0] at HE1
  have HX1 := Lib.hid h0
  have H0R := Lib.hid hr
  clear h0 hr
  have HU0 := Lib.hid hu
  have HQ : Hid (encV t = encV u ↔ t = u) := Lib.hid (enc_inj H0R.out hk.num (right_zero hu) hk2.num)
  have HEQ := Lib.hid heq
  clear hu heq
  clear hr1 hr2 hT hk hk2
  go_enter Tryd.func4, Tryd.ntmps4
  go_wp2_with fail
  refine (HE1.out).mono ?_
  rintro e w1 ⟨v1, rfl, hb1, hbe1⟩
  have HB1 := Lib.hid hb1
  have HBE1 := Lib.hid hbe1
  have HE2 := Lib.hid (Encode_any u uv HK2.out w1 (HR2.out.below (Nat.le_refl _) hbe1) (HT.out _ hbe1))
  obtain ⟨ao1, cap1, rfl, _, _⟩ := hb1.shape
  clear hb1 hbe1 HE1
  rw [HU0.out] at HE2
  go_wp2_with fail
  refine (HE2.out).mono ?_
  rintro e w2 ⟨v2, rfl, hb2, hbe2⟩
  have hbe02 : Below w.heap.size w w2 := HBE1.out.trans (hbe2.mono HBE1.out.size)
  have HB1b := Lib.hid (HB1.out.below hbe2)
  have HB2 := Lib.hid hb2
  have HBE2 := Lib.hid hbe02
  have HE3 := Lib.hid (rright_t t tv HKZ.out w2 (HR1.out.below (Nat.le_refl _) hbe02))
  rw [HX1.out] at HE3
  obtain ⟨ao2, cap2, rfl, _, _⟩ := hb2.shape
  obtain ⟨e3, he3⟩ : ∃ e3, (rightT t).2 = e3 := ⟨_, rfl⟩
  rw [he3] at HE3
  clear hb2 hbe2 hbe02 HE2 HBE1 HB1 he3
  go_wp2_with fail
  refine (HE3.out).mono ?_
  rintro e w3 ⟨rfl, hbe3⟩
  have HB1c := Lib.hid (HB1b.out.below hbe3)
  have HB2c := Lib.hid (HB2.out.below hbe3)
  have hbe03 : Below w.heap.size w w3 := HBE2.out.trans (hbe3.mono HBE2.out.size)
  have HBE3 := Lib.hid hbe03
  have HD := Lib.hid (Decode_any _ _ w3 HB1c.out.sl.rd (fun W hW => HT.out W (hbe03.trans (hW.mono hbe03.size))))
  clear hbe3 hbe03 HBE2 HE3 HB1b HB2
  go_wp2_with fail
  refine (HD.out).mono ?_
  rintro e w4 ⟨hd, hbe4⟩
  obtain ⟨v4, rfl, hs4, _⟩ := hd.okE HV1.out.1
  have hbe04 : Below w.heap.size w w4 := HBE3.out.trans (hbe4.mono HBE3.out.size)
  have HBE4 := Lib.hid hbe04
  have HB1d := Lib.hid (HB1c.out.below hbe4)
  have HB2d := Lib.hid (HB2c.out.below hbe4)
  have HS := Lib.hid (same_any t t _ _ w4 hs4.rd (HR1.out.below (Nat.le_refl _) hbe04))
  clear hs4 hbe4 hbe04 hd HBE3 HD HB1c HB2c
  go_wp2_with fail
  refine (HS.out).mono ?_
  rintro e w5 ⟨b, rfl, hb, hbe5⟩
  obtain rfl : b = true := hb.2 (by trivial)
  have hbe05 : Below w.heap.size w w5 := HBE4.out.trans (hbe5.mono HBE4.out.size)
  have HBE5 := Lib.hid hbe05
  have HB1e := Lib.hid (HB1d.out.below hbe5)
  have HB2e := Lib.hid (HB2d.out.below hbe5)
  have HR1e := Lib.hid (HR1.out.below (Nat.le_refl _) hbe05)
  have HR2e := Lib.hid (HR2.out.below (Nat.le_refl _) hbe05)
  have HS1 := Lib.hid (bsame_any (encV t) (encV u) _ _ w5 HB1e.out.sl.rd HB2e.out.sl.rd)
  clear hb hbe5 hbe05 HBE4 HS HB1d HB2d
  go_wp2_with fail
  refine (HS1.out).mono ?_
  rintro e w6 ⟨b, rfl, hb, hbe6⟩
  obtain rfl : b = true := hb.2 (HQ.out.2 HEQ.out)
  have HBE6 := Lib.hid (HBE5.out.trans (hbe6.mono HBE5.out.size))
  have HS2 := Lib.hid (same_any t u _ _ w6 (HR1e.out.below (Nat.le_refl _) hbe6) (HR2e.out.below (Nat.le_refl _) hbe6))
  clear hb hbe6 HBE5 HS1 HB1e HB2e HR1e HR2e
  go_wp2_with fail
  refine (HS2.out).mono ?_
  rintro e w7 ⟨b, rfl, hb, hbe7⟩
  obtain rfl : b = true := hb.2 HEQ.out
  have HBE7 := Lib.hid (HBE6.out.trans (hbe7.mono HBE6.out.size))
  have HAW := Lib.hid (awake_any w7 (fun W hW => HT.out W (HBE7.out.trans (hW.mono HBE7.out.size))))
  clear hb hbe7 HBE6 HS2
  go_wp2_with fail
  refine (HAW.out).mono ?_
  rintro e w8 ⟨rfl, hbe8⟩
  have HBE8 := Lib.hid (HBE7.out.trans (hbe8.mono HBE7.out.size))
  clear hbe8 HAW
  go_wp2_with fail
  go_ret
  exact ⟨rfl, HBE8.out⟩

set_option maxHeartbeats 1600000 in
set_option maxRecDepth 100000 in
theorem back_ne (t u : List Ce) (tv uv : Value) (hk : OkCes t) (hk2 : OkCes u) (w : World) (hr1 : Rd w 3 tv t.length (cvs t)) (hr2 : Rd w 3 uv u.length (cvs u)) (hT : Lib.Utf8Tabs 0 1 w) (h0 : (rightT t).1 = 0) (hu : (rightT u).1 = 0) (heq : ¬ t = u) :
    Calls Tryd.prog 4 #[tv, uv] w fun e w' => e = .returned (.bool true) ∧ Below w.heap.size w w' := by
  have HT : Hid (∀ W, Below w.heap.size w W → Lib.Utf8Tabs 0 1 W) := Lib.hid (fun W h => tabs_below hT (Nat.le_refl _) h)
  have HK2 := Lib.hid hk2
  have HKZ := Lib.hid hk.txt
  have HKN := Lib.hid hk.num
  have HR1 := Lib.hid hr1
  have HR2 := Lib.hid hr2
  have HE1 := Lib.hid (Encode_any t tv hk w hr1 hT)
  have hr := right_zero h0
  have HV1 := Lib.hid (enc_dec hr hk.num)
  rw [h0] at HE1
  have HX1 := Lib.hid h0
  have H0R := Lib.hid hr
  clear h0 hr
  have HU0 := Lib.hid hu
  have HQ : Hid (encV t = encV u ↔ t = u) := Lib.hid (enc_inj H0R.out hk.num (right_zero hu) hk2.num)
  have HEQ := Lib.hid heq
  clear hu heq
  clear hr1 hr2 hT hk hk2
  go_enter Tryd.func4, Tryd.ntmps4
  go_wp2_with fail
  refine (HE1.out).mono ?_
  rintro e w1 ⟨v1, rfl, hb1, hbe1⟩
  have HB1 := Lib.hid hb1
  have HBE1 := Lib.hid hbe1
  have HE2 := Lib.hid (Encode_any u uv HK2.out w1 (HR2.out.below (Nat.le_refl _) hbe1) (HT.out _ hbe1))
  obtain ⟨ao1, cap1, rfl, _, _⟩ := hb1.shape
  clear hb1 hbe1 HE1
  rw [HU0.out] at HE2
  go_wp2_with fail
  refine (HE2.out).mono ?_
  rintro e w2 ⟨v2, rfl, hb2, hbe2⟩
  have hbe02 : Below w.heap.size w w2 := HBE1.out.trans (hbe2.mono HBE1.out.size)
  have HB1b := Lib.hid (HB1.out.below hbe2)
  have HB2 := Lib.hid hb2
  have HBE2 := Lib.hid hbe02
  have HE3 := Lib.hid (rright_t t tv HKZ.out w2 (HR1.out.below (Nat.le_refl _) hbe02))
  rw [HX1.out] at HE3
  obtain ⟨ao2, cap2, rfl, _, _⟩ := hb2.shape
  obtain ⟨e3, he3⟩ : ∃ e3, (rightT t).2 = e3 := ⟨_, rfl⟩
  rw [he3] at HE3
  clear hb2 hbe2 hbe02 HE2 HBE1 HB1 he3
  go_wp2_with fail
  refine (HE3.out).mono ?_
  rintro e w3 ⟨rfl, hbe3⟩
  have HB1c := Lib.hid (HB1b.out.below hbe3)
  have HB2c := Lib.hid (HB2.out.below hbe3)
  have hbe03 : Below w.heap.size w w3 := HBE2.out.trans (hbe3.mono HBE2.out.size)
  have HBE3 := Lib.hid hbe03
  have HD := Lib.hid (Decode_any _ _ w3 HB1c.out.sl.rd (fun W hW => HT.out W (hbe03.trans (hW.mono hbe03.size))))
  clear hbe3 hbe03 HBE2 HE3 HB1b HB2
  go_wp2_with fail
  refine (HD.out).mono ?_
  rintro e w4 ⟨hd, hbe4⟩
  obtain ⟨v4, rfl, hs4, _⟩ := hd.okE HV1.out.1
  have hbe04 : Below w.heap.size w w4 := HBE3.out.trans (hbe4.mono HBE3.out.size)
  have HBE4 := Lib.hid hbe04
  have HB1d := Lib.hid (HB1c.out.below hbe4)
  have HB2d := Lib.hid (HB2c.out.below hbe4)
  have HS := Lib.hid (same_any t t _ _ w4 hs4.rd (HR1.out.below (Nat.le_refl _) hbe04))
  clear hs4 hbe4 hbe04 hd HBE3 HD HB1c HB2c
  go_wp2_with fail
  refine (HS.out).mono ?_
  rintro e w5 ⟨b, rfl, hb, hbe5⟩
  obtain rfl : b = true := hb.2 (by trivial)
  have hbe05 : Below w.heap.size w w5 := HBE4.out.trans (hbe5.mono HBE4.out.size)
  have HBE5 := Lib.hid hbe05
  have HB1e := Lib.hid (HB1d.out.below hbe5)
  have HB2e := Lib.hid (HB2d.out.below hbe5)
  have HR1e := Lib.hid (HR1.out.below (Nat.le_refl _) hbe05)
  have HR2e := Lib.hid (HR2.out.below (Nat.le_refl _) hbe05)
  have HS1 := Lib.hid (bsame_any (encV t) (encV u) _ _ w5 HB1e.out.sl.rd HB2e.out.sl.rd)
  clear hb hbe5 hbe05 HBE4 HS HB1d HB2d
  go_wp2_with fail
  refine (HS1.out).mono ?_
  rintro e w6 ⟨b, rfl, hb, hbe6⟩
  obtain rfl : b = false := by simpa using fun e => HEQ.out (HQ.out.1 (hb.1 e))
  have HBE6 := Lib.hid (HBE5.out.trans (hbe6.mono HBE5.out.size))
  have HS2 := Lib.hid (same_any t u _ _ w6 (HR1e.out.below (Nat.le_refl _) hbe6) (HR2e.out.below (Nat.le_refl _) hbe6))
  clear hb hbe6 HBE5 HS1 HB1e HB2e HR1e HR2e
  go_wp2_with fail
  refine (HS2.out).mono ?_
  rintro e w7 ⟨b, rfl, hb, hbe7⟩
  obtain rfl : b = false := by simpa using fun e => HEQ.out (hb.1 e)
  have HBE7 := Lib.hid (HBE6.out.trans (hbe7.mono HBE6.out.size))
  have HAW := Lib.hid (awake_any w7 (fun W hW => HT.out W (HBE7.out.trans (hW.mono HBE7.out.size))))
  clear hb hbe7 HBE6 HS2
  go_wp2_with fail
  refine (HAW.out).mono ?_
  rintro e w8 ⟨rfl, hbe8⟩
  have HBE8 := Lib.hid (HBE7.out.trans (hbe8.mono HBE7.out.size))
  clear hbe8 HAW
  go_wp2_with fail
  go_ret
  exact ⟨rfl, HBE8.out⟩

theorem etfBack_walk (t u : List Ce) (tv uv : Value) (hk : OkCes t) (hk2 : OkCes u) (w : World) (hr1 : Rd w 3 tv t.length (cvs t)) (hr2 : Rd w 3 uv u.length (cvs u)) (hT : Lib.Utf8Tabs 0 1 w) :
    Calls Tryd.prog 4 #[tv, uv] w fun e w' => e = .returned (.bool true) ∧ Below w.heap.size w w' := by
  by_cases h0 : (rightT t).1 = 0
  · by_cases hu : (rightT u).1 = 0
    · by_cases heq : t = u
      · exact back_eq t u tv uv hk hk2 w hr1 hr2 hT h0 hu heq
      · exact back_ne t u tv uv hk hk2 w hr1 hr2 hT h0 hu heq
    · exact back_half t u tv uv hk hk2 w hr1 hr2 hT h0 hu
  · exact back_bad t u tv uv hk hk2 w hr1 hr2 hT h0
end Go.Proofs.YtkhjdcnlpablkaaDoor
