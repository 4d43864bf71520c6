/- The program's reader: a number of any size. Printed by genBig.py. -/
import Derived.Test.YtkhjdcnlpablkaaDoorMade
import Derived.Lib.EndianBits
namespace Go.Proofs.YtkhjdcnlpablkaaDoor
open Go.RowKit
open Go.Lib (byteCells)

theorem u64_or8 (x c : Nat) (hx : x < 72057594037927936) (hc : c < 256) : bits .or .u64 ((x : Int) * 256) (c : Int) = (x : Int) * 256 + c :=
  bits_join .u64 64 (by decide) wraps_u64 8 _ _ (by omega) (by omega) (by omega) (by omega) (by omega) (by omega)

theorem leV_drop (l : List UInt8) (k : Nat) (c : UInt8) (h : l[k]? = some c) : leV (l.drop k) = c.toNat + 256 * leV (l.drop (k + 1)) := by
  have hk := (List.getElem?_eq_some_iff.1 h).1
  rw [List.drop_eq_getElem_cons hk, (List.getElem?_eq_some_iff.1 h).2]
  rfl
theorem leV_le (l : List UInt8) : ∀ k, leV (l.drop k) ≤ leV l := by
  induction l with
  | nil => intro k; simp
  | cons c r ih =>
    intro k
    cases k with
    | zero => exact Nat.le_refl _
    | succ k => have := ih k; simp only [List.drop_succ_cons, leV]; omega
theorem leV_256 (l : List UInt8) (k : Nat) (hk : k < l.length) : 256 * leV (l.drop (k + 1)) ≤ leV l := by
  have h1 := leV_drop l k l[k] (List.getElem?_eq_getElem hk)
  have h2 := leV_le l k
  omega

set_option maxHeartbeats 3200000 in
set_option maxRecDepth 100000 in
theorem big_any (B rb : Nat) (bv sv : Value) (bs : List UInt8) (s : Pr) (hlen : bs.length ≤ 1048576) (hpos : 1 ≤ bs.length) (w : World) (h : Rp B w rb bv sv bs s) (hs : s.why = 0) :
    Calls Tryd.prog 47 #[.pointer (some ⟨rb, 0, none⟩)] w fun r w' => ResP (bigD bs s.pos s.tag)
      (fun x => r = .returned (.int .i64 x.1) ∧ Rw B w rb bv sv bs w' sv { s with pos := x.2 })
      (fun e p => r = .returned (.int .i64 0) ∧ Er B w rb bv sv bs e p w') := by
  have H := Lib.hid h
  have HS := Lib.hid hs
  have H1 := number_res B rb bv sv bs s 1 hlen hpos (by omega) w h hs
  clear h hs
  cases hn : numD bs s.pos 1 with
  | bad e p =>
    replace H1 := callsBad H1 hn
    have HF : Hid (bigD bs s.pos s.tag = .bad e p) := Lib.hid (by unfold bigD; rw [hn]; rfl)
    have HH1 := Lib.hid H1
    clear H1 hn
    go_enter Tryd.func47, Tryd.ntmps47
    go_wp2_with fail
    refine (HH1.out).mono ?_
    rintro r w1 ⟨rfl, hE⟩
    have H2 := Lib.hid (number_er 1 hE)
    clear hE
    go_wp2_with fail
    refine (H2.out).mono ?_
    rintro r w2 ⟨rfl, hE⟩
    have H3 := Lib.hid (take_er 0 hE)
    clear hE
    go_wp2_with fail
    refine (H3.out).mono ?_
    rintro r w3 ⟨rfl, hE⟩
    obtain ⟨c5, q1, q2⟩ := hE.why
    have HE := Lib.hid hE
    clear hE
    go_wp2_with fail
    go_ret
    exact ResP.badI HF.out ⟨rfl, HE.out⟩
  | ok n =>
    replace H1 := callsOk H1 hn
    have HH1 := Lib.hid H1
    have hnb : n < 256 := by
      have h1 := numD_ok hn
      have h2 := beN_lt (rest bs s.pos 1)
      rw [rest_len h1.1, ← h1.2] at h2
      exact h2
    cases hg : numD bs (s.pos + 1) 1 with
    | bad e p =>
      have HF : Hid (bigD bs s.pos s.tag = .bad e p) := Lib.hid (by unfold bigD; rw [hn]; simp only [Res.bind]; rw [hg])
      have HG := Lib.hid hg
      clear H1 hn hg
      go_enter Tryd.func47, Tryd.ntmps47
      go_wp2_with fail
      refine (HH1.out).mono ?_
      rintro r w1 ⟨rfl, h1⟩
      have H2 := Lib.hid (callsBad (number_res B rb bv sv bs _ 1 hlen hpos (by omega) w1 h1.rp HS.out) HG.out)
      have HW1 := Lib.hid h1
      clear h1
      go_wp2_with fail
      refine (H2.out).mono ?_
      rintro r w2 ⟨rfl, hE⟩
      have H3 := Lib.hid (take_er (n : Int) hE)
      clear hE
      go_wp2_with fail
      refine (H3.out).mono ?_
      rintro r w3 ⟨rfl, hE⟩
      obtain ⟨c5, q1, q2⟩ := hE.why
      have HE := Lib.hid hE
      clear hE
      go_wp2_with fail
      go_ret
      exact ResP.badI HF.out ⟨rfl, Er.behind HW1.out HE.out⟩
    | ok sign =>
      have HG := Lib.hid hg
      cases hl : takeD bs (s.pos + 2) n with
      | bad e p =>
        have HF : Hid (bigD bs s.pos s.tag = .bad e p) := Lib.hid (by unfold bigD; rw [hn]; simp only [Res.bind]; rw [hg]; simp only; rw [hl])
        have HL := Lib.hid hl
        clear H1 hn hg hl
        go_enter Tryd.func47, Tryd.ntmps47
        go_wp2_with fail
        refine (HH1.out).mono ?_
        rintro r w1 ⟨rfl, h1⟩
        have H2 := Lib.hid (callsOk (number_res B rb bv sv bs _ 1 hlen hpos (by omega) w1 h1.rp HS.out) HG.out)
        have HW1 := Lib.hid h1
        clear h1
        go_wp2_with fail
        refine (H2.out).mono ?_
        rintro r w2 ⟨rfl, h2⟩
        have H3 := Lib.hid (callsBad (take_res B rb bv sv bs _ n hlen hpos (by omega) w2 h2.rp HS.out) HL.out)
        have HW2 := Lib.hid (HW1.out.trans h2)
        clear h2
        go_wp2_with fail
        refine (H3.out).mono ?_
        rintro r w3 ⟨rfl, hE⟩
        obtain ⟨c5, q1, q2⟩ := hE.why
        have HE := Lib.hid hE
        clear hE
        go_wp2_with fail
        go_ret
        exact ResP.badI HF.out ⟨rfl, Er.behind HW2.out HE.out⟩
      | ok l =>
        have HL := Lib.hid hl
        have hll : l.length = n := by
          have h1 := takeD_ok hl
          rw [h1.2]; exact rest_len h1.1
        have HLL := Lib.hid hll
        have HF : Hid (bigD bs s.pos s.tag = if 1 < sign then .bad 1 s.tag else if 9223372036854775808 < leV l ∨ (leV l = 9223372036854775808 ∧ sign = 0) then .bad 7 s.tag else .ok (if sign = 1 then -(leV l : Int) else (leV l : Int), s.pos + 2 + n)) := Lib.hid (by unfold bigD; rw [hn]; simp only [Res.bind]; rw [hg]; simp only; rw [hl])
        clear H1 hn hg hl hll
        go_enter Tryd.func47, Tryd.ntmps47
        go_wp2_with fail
        refine (HH1.out).mono ?_
        rintro r w1 ⟨rfl, h1⟩
        have H2 := Lib.hid (callsOk (number_res B rb bv sv bs _ 1 hlen hpos (by omega) w1 h1.rp HS.out) HG.out)
        have HW1 := Lib.hid h1
        clear h1
        go_wp2_with fail
        refine (H2.out).mono ?_
        rintro r w2 ⟨rfl, h2⟩
        have H3 := Lib.hid (callsOk (take_res B rb bv sv bs _ n hlen hpos (by omega) w2 h2.rp HS.out) HL.out)
        have HW2 := Lib.hid (HW1.out.trans h2)
        clear h2
        go_wp2_with fail
        refine (H3.out).mono ?_
        rintro r w3 ⟨⟨g, off, cap, rfl, hrd⟩, h3⟩
        have c5 := h3.rp.fld.2.2.2
        have c2 := h3.rp.fld.2.1
        simp only at c5 c2
        rw [HS.out] at c5
        have HRD := Lib.hid hrd.now
        have HW3 := Lib.hid (HW2.out.trans h3)
        have H4 := fun e => fail_any B rb bv sv bs _ e s.tag w3 h3.rp
        have HH4 := Lib.hid H4
        clear h3 hrd H4
        by_cases hsg : 1 < sign
        · have q1 : decide (1 < (sign : Int)) = true := by simp; omega
          have q2 : decide (1 < sign) = true := by simp; omega
          have HFB : Hid (bigD bs s.pos s.tag = .bad 1 s.tag) := Lib.hid (by rw [HF.out, if_pos hsg])
          have H5 := Lib.hid (HH4.out 1)
          clear hsg
          go_wp2_with fail
          refine (H5.out).mono ?_
          rintro r w4 ⟨rfl, h4⟩
          have HW4 := Lib.hid h4
          clear h4
          go_wp2_with fail
          go_ret
          exact ResP.badI HFB.out ⟨rfl, .fail (HW3.out.trans HW4.out) HS.out (by omega)⟩
        · have q1 : decide (1 < (sign : Int)) = false := by simp; omega
          have q2 : decide (1 < sign) = false := by simp; omega
          have H5 := Lib.hid (HH4.out 7)
          have n1 : IntKind.i64.wrap ((n : Int) - 1) = (n : Int) - 1 := by rw [IntKind.wrap_i64]; omega
          go_wp2_with fail
          go_loopg [6, 7] n (fun g s6 s7 wr => ∃ (i : Int) (u : Nat), s6 = .int .u64 u ∧ s7 = .int .i64 i ∧ i + 1 = g ∧ g ≤ n ∧ u = leV (l.drop g) ∧ u < 18446744073709551616 ∧ wr = w3)
          case atStart => exact ⟨_, 0, rfl, rfl, by omega, by omega, by rw [List.drop_of_length_le (by rw [HLL.out]; omega)]; rfl, by omega, rfl⟩
          case round =>
            obtain ⟨i, u, rfl, rfl, hi, hgn, hu, hu64, rfl⟩ := hrel
            cases gk with
            | zero =>
              obtain rfl : i = -1 := by omega
              have hu0 : leV l = u := hu.symm
              rw [hu0] at HF
              clear hu hu0 hgn hi
              by_cases hbad : 9223372036854775808 < u ∨ (u = 9223372036854775808 ∧ sign = 0)
              · have HFB : Hid (bigD bs s.pos s.tag = .bad 7 s.tag) := Lib.hid (by rw [HF.out, if_neg hsg, if_pos hbad])
                rcases hbad with hb | ⟨rfl, rfl⟩
                · have t1 : decide ((9223372036854775808 : Int) < (u : Int)) = true := by simp; omega
                  have t2 : decide (9223372036854775808 < u) = true := by simp; omega
                  have t3 : ((u : Int) == 9223372036854775808) = false := by simp; omega
                  go_wp2_with fail
                  refine (H5.out).mono ?_
                  rintro r w4 ⟨rfl, h4⟩
                  have HW4 := Lib.hid h4
                  clear h4
                  go_wp2_with fail
                  go_ret
                  exact ResP.badI HFB.out ⟨rfl, .fail (HW3.out.trans HW4.out) HS.out (by omega)⟩
                · go_wp2_with fail
                  refine (H5.out).mono ?_
                  rintro r w4 ⟨rfl, h4⟩
                  have HW4 := Lib.hid h4
                  clear h4
                  go_wp2_with fail
                  go_ret
                  exact ResP.badI HFB.out ⟨rfl, .fail (HW3.out.trans HW4.out) HS.out (by omega)⟩
              · have HFB : Hid (bigD bs s.pos s.tag = .ok (if sign = 1 then -(u : Int) else (u : Int), s.pos + 2 + n)) := Lib.hid (by rw [HF.out, if_neg hsg, if_neg hbad])
                have t1 : decide ((9223372036854775808 : Int) < (u : Int)) = false := by simp; omega
                have t2 : decide (9223372036854775808 < u) = false := by simp; omega
                obtain rfl | rfl : sign = 0 ∨ sign = 1 := by omega
                · have t3 : ((u : Int) == 9223372036854775808) = false := by simp; omega
                  have t4 : IntKind.i64.wrap (u : Int) = u := by rw [IntKind.wrap_i64]; omega
                  go_wp2_with fail
                  go_ret
                  exact ResP.okI HFB.out ⟨rfl, HW3.out⟩
                · have t4 : IntKind.i64.wrap (IntKind.u64.wrap (-(u : Int))) = -(u : Int) := by rw [IntKind.wrap_u64, IntKind.wrap_i64]; omega
                  obtain ⟨m, hm⟩ : ∃ m, IntKind.u64.wrap (-(u : Int)) = m := ⟨_, rfl⟩
                  rw [hm] at t4
                  by_cases he : u = 9223372036854775808
                  · have t3 : ((u : Int) == 9223372036854775808) = true := by simp; omega
                    clear he hbad
                    go_wp2_with fail
                    go_ret
                    exact ResP.okI HFB.out ⟨rfl, HW3.out⟩
                  · have t3 : ((u : Int) == 9223372036854775808) = false := by simp; omega
                    clear he hbad
                    go_wp2_with fail
                    go_ret
                    exact ResP.okI HFB.out ⟨rfl, HW3.out⟩
            | succ g' =>
              obtain rfl : i = (g' : Int) := by omega
              have hkl : g' < l.length := by have := HLL.out; omega
              obtain ⟨c, hc⟩ : ∃ c, l[g']? = some c := ⟨l[g'], List.getElem?_eq_getElem _⟩
              by_cases hbig : 72057594037927936 ≤ u
              · have HFB : Hid (bigD bs s.pos s.tag = .bad 7 s.tag) := Lib.hid (by
                  have := leV_256 l g' hkl
                  rw [← hu] at this
                  rw [HF.out, if_neg hsg, if_pos (.inl (by omega))])
                have t1 : decide ((72057594037927936 : Int) ≤ (u : Int)) = true := by simp; omega
                have t2 : decide (72057594037927936 ≤ u) = true := by simp; omega
                have t3 : decide (0 ≤ (g' : Int)) = true := by simp
                clear hbig hc hu
                go_wp2_with fail
                refine (H5.out).mono ?_
                rintro r w4 ⟨rfl, h4⟩
                have HW4 := Lib.hid h4
                clear h4
                go_wp2_with fail
                go_ret
                exact ResP.badI HFB.out ⟨rfl, .fail (HW3.out.trans HW4.out) HS.out (by omega)⟩
              · have t1 : decide ((72057594037927936 : Int) ≤ (u : Int)) = false := by simp; omega
                have t2 : decide (72057594037927936 ≤ u) = false := by simp; omega
                have t3 : decide (0 ≤ (g' : Int)) = true := by simp
                have hck := cells_byte HRD.out hc HLL.out
                have hcb := UInt8.toNat_lt c
                have hnx := leV_drop l g' c hc
                rw [← hu] at hnx
                obtain ⟨y, hy⟩ : ∃ y, c.toNat = y := ⟨_, rfl⟩
                rw [hy] at hck hcb hnx
                have hor := u64_or8 u y (by omega) hcb
                have h256 : IntKind.u64.wrap ((u : Int) * 256) = (u : Int) * 256 := wraps_u64 _ (by omega) (by omega)
                have hg1 : IntKind.i64.wrap ((g' : Int) - 1) = (g' : Int) - 1 := by rw [IntKind.wrap_i64]; omega
                have hkz : (g' : Int) < (n : Int) := by have := HLL.out; omega
                have hkz' : g' < n := by have := HLL.out; omega
                have HN := Lib.hid hnx
                have HUB := Lib.hid (show u * 256 + y < 18446744073709551616 by omega)
                clear hbig hc hu hnx hy
                go_wp2_with fail
                go_roundg g'
                case measure => omega
                case rel => exact ⟨(g' : Int) - 1, u * 256 + y, by first | rfl | (congr 1; omega), rfl, by omega, by omega, by rw [HN.out]; omega, HUB.out, rfl⟩
end Go.Proofs.YtkhjdcnlpablkaaDoor
