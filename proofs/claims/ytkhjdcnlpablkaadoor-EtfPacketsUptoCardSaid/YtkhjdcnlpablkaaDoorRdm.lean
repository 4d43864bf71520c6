/- The program's reader: made, host; calls behind a fault. -/
import Derived.Test.YtkhjdcnlpablkaaDoorRdq
import Derived.Test.YtkhjdcnlpablkaaDoorOrd
namespace Go.Proofs.YtkhjdcnlpablkaaDoor
open Go.RowKit
open Go.Lib (byteCells)

section
variable {B rb : Nat} {w w1 : World} {bv sv : Value} {bs : List UInt8} {e p : Nat}
theorem Er.why (h : Er B w rb bv sv bs e p w1) : w1.cell? ⟨rb, 5, none⟩ = some (.int .i64 e) ∧ ((e : Int) == 0) = false ∧ ((e : Int) != 0) = true := by
  obtain ⟨sv1, s1, h1, hw, hp, he⟩ := h
  have := h1.rp.fld.2.2.2
  rw [hw] at this
  exact ⟨this, by simp; omega, by simp; omega⟩

theorem number_er (n : Nat) (h : Er B w rb bv sv bs e p w1) : Calls Tryd.prog 45 #[.pointer (some ⟨rb, 0, none⟩), .int .i64 n] w1 fun r w2 => r = .returned (.int .i64 0) ∧ Er B w rb bv sv bs e p w2 := by
  obtain ⟨sv1, s1, h1, hw, hp, he⟩ := h
  exact (number_err B rb bv sv1 bs s1 n w1 h1.rp (by omega)).mono fun r w2 hr => ⟨hr.1, _, _, h1.trans hr.2, hw, hp, he⟩

theorem take_er (n : Int) (h : Er B w rb bv sv bs e p w1) : Calls Tryd.prog 52 #[.pointer (some ⟨rb, 0, none⟩), .int .i64 n] w1 fun r w2 => r = .returned (.slice none 0 0) ∧ Er B w rb bv sv bs e p w2 := by
  obtain ⟨sv1, s1, h1, hw, hp, he⟩ := h
  exact (take_err B rb bv sv1 bs s1 n w1 h1.rp (by omega)).mono fun r w2 hr => ⟨hr.1, _, _, h1.trans hr.2, hw, hp, he⟩

set_option maxRecDepth 100000 in
theorem first_er (h : Er B w rb bv sv bs e p w1) : Calls Tryd.prog 44 #[.pointer (some ⟨rb, 0, none⟩)] w1 fun r w2 => r = .returned (.int .u8 0) ∧ Er B w rb bv sv bs e p w2 := by
  obtain ⟨sv1, s1, h1, hw, hp, he⟩ := h
  obtain ⟨c0, c1, c2, c3, c4, c5, c6⟩ := Pr.cell h1.rp.blk
  have f2 := blk_free h1.rp.blk 2
  have hu : Rw B w1 rb bv sv1 bs (w1.setCell ⟨rb, 2, none⟩ (.int .i64 s1.pos)) sv1 { s1 with tag := s1.pos } :=
    h1.rp.upd ((Fr.refl (fun k => k = rb) w1).setCell (p := ⟨rb, 2, none⟩) (.inl rfl) _) (by rw [blk_set h1.rp.blk 2 _]; rfl) rfl h1.rp.le
  have H1 := Lib.hid (take_err B rb bv sv1 bs { s1 with tag := s1.pos } 1 _ hu.rp (by show s1.why ≠ 0; omega))
  have HU := Lib.hid (h1.trans hu)
  have HW := Lib.hid (⟨hw, hp, he⟩ : s1.why = e ∧ s1.place = p ∧ e ≠ 0)
  clear h1 hu hw hp he c0 c3 c4 c5 c6
  go_enter Tryd.func44, Tryd.ntmps44
  go_wp2_with fail
  refine (H1.out).mono ?_
  rintro r w2 ⟨rfl, h2⟩
  have H2 := Lib.hid h2
  have hneq := sl_neq0 w2
  clear h2 c1 c2 f2
  go_wp2_with fail
  go_ret
  exact ⟨rfl, _, _, HU.out.trans H2.out, HW.out.1, HW.out.2.1, HW.out.2.2⟩

set_option maxRecDepth 100000 in
theorem host_er (h : Er B w rb bv sv bs e p w1) : Calls Tryd.prog 77 #[.pointer (some ⟨rb, 0, none⟩)] w1 fun r w2 => r = .returned (.tuple #[]) ∧ Er B w rb bv sv bs e p w2 := by
  have H1 := Lib.hid (first_er h)
  clear h
  go_enter Tryd.func77, Tryd.ntmps77
  go_wp2_with fail
  refine (H1.out).mono ?_
  rintro r w2 ⟨rfl, h2⟩
  obtain ⟨c5, q1, q2⟩ := h2.why
  have H2 := Lib.hid h2
  clear h2
  go_wp2_with fail
  go_end0
  exact ⟨rfl, H2.out⟩

set_option maxRecDepth 100000 in
theorem made_er (k n : Int) (str : ByteArray) (m : Int) (h : Er B w rb bv sv bs e p w1) : Calls Tryd.prog 46 #[.pointer (some ⟨rb, 0, none⟩), .agg #[.int .i64 k, .int .i64 n, .string str], .int .i64 m] w1 fun r w2 => r = .returned (.tuple #[]) ∧ Er B w rb bv sv bs e p w2 := by
  have hA := h.below (bel_box w1 (.cells #[.int .i64 k, .int .i64 n, .string str] 60))
  obtain ⟨c5, q1, q2⟩ := hA.why
  have HA := Lib.hid hA
  have c5' := h.why.1
  have hlt : rb < w1.heap.size := by obtain ⟨sv1, s1, h1, _⟩ := h; exact h1.rp.lt
  clear h hA
  go_enter Tryd.func46, Tryd.ntmps46
  go_wp2_with fail
  refine bodyPost_ret (results_none rfl _ _ _) rfl ?_
  exact ⟨rfl, HA.out⟩
end

set_option maxHeartbeats 1600000 in
set_option maxRecDepth 100000 in
theorem host_any (B rb : Nat) (bv sv : Value) (bs : List UInt8) (s : Pr) (hlen : bs.length ≤ 1048576) (hpos : 1 ≤ bs.length) (w : World) (h : Rp B w rb bv sv bs s) (hs : s.why = 0) (hT : ∀ W, Below B w W → Lib.Utf8Tabs 0 1 W) :
    Calls Tryd.prog 77 #[.pointer (some ⟨rb, 0, none⟩)] w fun r w' => ResP (hostD bs s.pos)
      (fun x => r = .returned (.tuple #[]) ∧ Rw B w rb bv sv bs w' sv { s with tag := s.pos, pos := x })
      (fun e p => r = .returned (.tuple #[]) ∧ Er B w rb bv sv bs e p w') := by
  have HS := Lib.hid hs
  have HT := Lib.hid hT
  have H := Lib.hid h
  by_cases hlt : s.pos < bs.length
  · have H1 := Lib.hid (first_ok B rb bv sv bs s hlen w h hs hlt)
    have htag : tagD bs s.pos = .ok (beN (rest bs s.pos 1)) := if_neg (by omega)
    obtain ⟨tag, ht⟩ : ∃ tag, beN (rest bs s.pos 1) = tag := ⟨_, rfl⟩
    have htb := beN_lt (rest bs s.pos 1)
    rw [rest_len (by omega)] at htb
    rw [ht] at H1 htag htb
    have HX : Hid (hostD bs s.pos = if tag ≠ 119 ∧ tag ≠ 118 then .bad 61 s.pos else (textD bs (s.pos + 1) tag s.pos).bind fun p => .ok p.2) := Lib.hid (by unfold hostD; rw [htag]; rfl)
    clear h hs hT htag ht
    by_cases h119 : tag = 119 ∨ tag = 118
    · cases hx : textD bs (s.pos + 1) tag s.pos with
      | ok x =>
        have HF : Hid (hostD bs s.pos = .ok x.2) := Lib.hid (by rw [HX.out, if_neg (by omega), hx]; rfl)
        have HTX := Lib.hid hx
        clear hx
        rcases h119 with rfl | rfl
        all_goals
          go_enter Tryd.func77, Tryd.ntmps77
          go_wp2_with fail
          refine (H1.out).mono ?_
          rintro r w1 ⟨rfl, h1⟩
          have c5 := h1.rp.fld.2.2.2
          simp only at c5
          rw [HS.out] at c5
          have HH1 := Lib.hid h1
          have H2 := Lib.hid (callsOk (text_any B rb bv sv bs _ _ (by first | exact .inr rfl | exact .inl rfl) hlen hpos w1 h1.rp HS.out (fun W hW => HT.out W ((h1.bel H.out).trans hW))) HTX.out)
          clear h1
          go_wp2_with fail
          refine (H2.out).mono ?_
          rintro r w2 ⟨rfl, h2⟩
          have HH2 := Lib.hid h2
          clear h2 c5
          go_wp2_with fail
          go_end0
          exact ResP.okI HF.out ⟨rfl, HH1.out.trans HH2.out⟩
      | bad e p =>
        have HF : Hid (hostD bs s.pos = .bad e p) := Lib.hid (by rw [HX.out, if_neg (by omega), hx]; rfl)
        have HTX := Lib.hid hx
        clear hx
        rcases h119 with rfl | rfl
        all_goals
          go_enter Tryd.func77, Tryd.ntmps77
          go_wp2_with fail
          refine (H1.out).mono ?_
          rintro r w1 ⟨rfl, h1⟩
          have c5 := h1.rp.fld.2.2.2
          simp only at c5
          rw [HS.out] at c5
          have HH1 := Lib.hid h1
          have H2 := Lib.hid (callsBad (text_any B rb bv sv bs _ _ (by first | exact .inr rfl | exact .inl rfl) hlen hpos w1 h1.rp HS.out (fun W hW => HT.out W ((h1.bel H.out).trans hW))) HTX.out)
          clear h1
          go_wp2_with fail
          refine (H2.out).mono ?_
          rintro r w2 ⟨⟨str, rfl⟩, h2⟩
          have HH2 := Lib.hid h2
          clear h2 c5
          go_wp2_with fail
          go_end0
          exact ResP.badI HF.out ⟨rfl, Er.behind HH1.out HH2.out⟩
    · have HF : Hid (hostD bs s.pos = .bad 61 s.pos) := Lib.hid (by rw [HX.out, if_pos (by omega)])
      have q1 : ((tag : Int) == 119) = false := by simp; omega
      have q2 : ((tag : Int) == 118) = false := by simp; omega
      have q3 : ((tag : Int) != 119) = true := by simp; omega
      have q4 : ((tag : Int) != 118) = true := by simp; omega
      clear h119
      go_enter Tryd.func77, Tryd.ntmps77
      go_wp2_with fail
      refine (H1.out).mono ?_
      rintro r w1 ⟨rfl, h1⟩
      have c5 := h1.rp.fld.2.2.2
      have c2 := h1.rp.fld.2.1
      simp only at c5 c2
      rw [HS.out] at c5
      have HH1 := Lib.hid h1
      have H2 := Lib.hid (fail_any B rb bv sv bs _ 61 s.pos w1 h1.rp)
      clear h1
      go_wp2_with fail
      refine (H2.out).mono ?_
      rintro r w2 ⟨rfl, h2⟩
      have hE : Er B w rb bv sv bs 61 s.pos w2 := .fail (HH1.out.trans h2) HS.out (by omega)
      have c5' := hE.why.1
      have HE := Lib.hid hE
      clear h2 hE c5 c2
      go_wp2_with fail
      go_end0
      exact ResP.badI HF.out ⟨rfl, HE.out⟩
  · have H1 := Lib.hid (first_short B rb bv sv bs s hlen w h hs (by omega))
    have HF : Hid (hostD bs s.pos = .bad 62 bs.length) := Lib.hid (by
      have : tagD bs s.pos = .bad 62 bs.length := if_pos (by omega)
      unfold hostD; rw [this]; rfl)
    clear h hs hT hlt
    go_enter Tryd.func77, Tryd.ntmps77
    go_wp2_with fail
    refine (H1.out).mono ?_
    rintro r w1 ⟨rfl, h1⟩
    obtain ⟨c5, q1, q2⟩ := h1.why
    have HE := Lib.hid h1
    clear h1
    go_wp2_with fail
    go_end0
    exact ResP.badI HF.out ⟨rfl, HE.out⟩
end Go.Proofs.YtkhjdcnlpablkaaDoor
