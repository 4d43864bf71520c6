/- The program's reader: a list's length. Printed by genLst.py. -/
import Derived.Test.YtkhjdcnlpablkaaDoorTup
namespace Go.Proofs.YtkhjdcnlpablkaaDoor
open Go.RowKit
open Go.Lib (byteCells)

def listD (bs : List UInt8) (s : Pr) : Res (Rs × Nat × Bool) := (numD bs s.pos 4).bind fun n => if 1024 < s.cells + n then .bad 7 s.tag else .ok (⟨s.pos + 4, s.cells + n, s.out⟩, n + 1, true)

set_option maxHeartbeats 3200000 in
set_option maxRecDepth 100000 in
theorem list_any (B rb : Nat) (bv sv : Value) (bs : List UInt8) (s : Pr) (hlen : bs.length ≤ 1048576) (hpos : 1 ≤ bs.length) (w : World) (h : Rp B w rb bv sv bs s) (hs : s.why = 0) (hcl : s.cells ≤ 1024) :
    Calls Tryd.prog 51 #[.pointer (some ⟨rb, 0, none⟩)] w fun r w' => ResP (listD bs s)
      (fun x => r = .returned (.agg #[.int .i64 x.2.1, .bool x.2.2]) ∧ Got B w rb bv sv bs w' x.1)
      (fun e p => (∃ (n : Int) (b : Bool), r = .returned (.agg #[.int .i64 n, .bool b])) ∧ Er B w rb bv sv bs e p w') := by
  obtain ⟨X, hX⟩ : ∃ X, listD bs s = X := ⟨_, rfl⟩
  rw [hX]
  have HX : Hid (X = listD bs s) := Lib.hid hX.symm
  clear hX
  have hA := h.below (bel_box w kidsO)
  have H1 := number_res B rb bv sv bs s 4 hlen hpos (by omega) _ hA hs
  have HS := Lib.hid hs
  have H := Lib.hid h
  unfold kidsO at H1
  clear h hs hA
  cases hk : numD bs s.pos 4 with
  | bad e p =>
    replace H1 := Lib.hid (callsBad H1 hk)
    have HF : Hid (X = .bad e p) := Lib.hid (by rw [HX.out]; unfold listD; rw [hk]; rfl)
    clear hk
    go_enter Tryd.func51, Tryd.ntmps51
    go_wp2_with fail
    refine (H1.out).mono ?_
    rintro r w9 ⟨rfl, hE⟩
    obtain ⟨c5, q1, q2⟩ := hE.why
    have hm := Er.mine (o := kidsO) H.out hE
    obtain ⟨b0, b1, f0, f1⟩ := kids_cells hm
    have HM := Lib.hid hm
    have HE := Lib.hid hE
    clear hm hE
    go_wp2_with fail
    exact kids_ret rfl _ _ rfl rfl HM.out H.out (ResP.badI HF.out ⟨⟨_, _, rfl⟩, Er.slot (o := kidsO) H.out HE.out (fr_two _ _ _ _)⟩)
  | ok n =>
    replace H1 := Lib.hid (callsOk H1 hk)
    have hnb : n < 4294967296 := by
      have h1 := numD_ok hk
      have h2 := beN_lt (rest bs s.pos 4)
      rw [rest_len h1.1, ← h1.2] at h2
      exact h2
    have HF : Hid (X = if 1024 < s.cells + n then .bad 7 s.tag else .ok (⟨s.pos + 4, s.cells + n, s.out⟩, n + 1, true)) := Lib.hid (by rw [HX.out]; unfold listD; rw [hk]; rfl)
    obtain ⟨m, hm⟩ : ∃ m, s.cells = m := ⟨_, rfl⟩
    have HM0 := Lib.hid hm
    rw [hm] at hcl
    obtain ⟨n1, hn1⟩ : ∃ n1, n + 1 = n1 := ⟨_, rfl⟩
    have g1 : IntKind.i64.wrap ((n : Int) + 1) = (n1 : Int) := by rw [wraps_i64 _ (by omega) (by omega)]; omega
    have g2 : (n : Int) + 1 = (n1 : Int) := by omega
    have g3 : IntKind.i64.wrap (n1 : Int) = (n1 : Int) := wraps_i64 _ (by omega) (by omega)
    have g4 : IntKind.i64.wrap (1024 - (m : Int)) = 1024 - (m : Int) := wraps_i64 _ (by omega) (by omega)
    have HN1 := Lib.hid hn1
    clear hk hm hn1
    go_enter Tryd.func51, Tryd.ntmps51
    go_wp2_with fail
    refine (H1.out).mono ?_
    rintro r w1 ⟨rfl, h1⟩
    obtain ⟨_, c2, c3, c5⟩ := h1.rp.fld
    simp only at c2 c3 c5
    rw [HS.out] at c5
    rw [HM0.out] at c3
    have HW1 := Lib.hid h1
    clear h1
    by_cases hbig : 1024 < m + n
    · have HFB : Hid (X = .bad 7 s.tag) := Lib.hid (by rw [HF.out, if_pos (by rw [HM0.out]; exact hbig)])
      have t1 : decide (1024 - (m : Int) < (n : Int)) = true := by simp; omega
      have H5 := Lib.hid (fail_any B rb bv sv bs _ 7 s.tag w1 HW1.out.rp)
      clear hbig
      go_wp2_with fail
      refine (H5.out).mono ?_
      rintro r w5 ⟨rfl, h5⟩
      have hE : Er B (w.alloc kidsO) rb bv sv bs 7 s.tag w5 := .fail (HW1.out.trans h5) HS.out (by omega)
      obtain ⟨d5, q1, q2⟩ := hE.why
      have hm := hE.mine H.out
      obtain ⟨b0, b1, f0, f1⟩ := kids_cells hm
      have HM := Lib.hid hm
      have HE := Lib.hid hE
      clear hm hE h5 c2 c3 c5
      go_wp2_with fail
      exact kids_ret rfl _ _ rfl rfl HM.out H.out (ResP.badI HFB.out ⟨⟨_, _, rfl⟩, Er.slot (o := kidsO) H.out HE.out (fr_two _ _ _ _)⟩)
    · have HFG : Hid (X = .ok (⟨s.pos + 4, s.cells + n, s.out⟩, n + 1, true)) := Lib.hid (by rw [HF.out, if_neg (by rw [HM0.out]; exact hbig)])
      have t1 : decide (1024 - (m : Int) < (n : Int)) = false := by simp; omega
      obtain ⟨mn, hmn⟩ : ∃ mn, m + n = mn := ⟨_, rfl⟩
      have g5 : IntKind.i64.wrap ((m : Int) + (n : Int)) = (mn : Int) := by rw [wraps_i64 _ (by omega) (by omega)]; omega
      have g6 : (m : Int) + (n : Int) = (mn : Int) := by omega
      have g7 : IntKind.i64.wrap (mn : Int) = (mn : Int) := wraps_i64 _ (by omega) (by omega)
      have f3 := blk_free HW1.out.rp.blk 3
      have hu : Rw B (w.alloc kidsO) rb bv sv bs (w1.setCell ⟨rb, 3, none⟩ (.int .i64 (mn : Int))) sv _ := HW1.out.trans (HW1.out.rp.upd (s' := { s with pos := s.pos + 4, cells := mn }) ((Fr.refl (fun k => k = rb) w1).setCell (p := ⟨rb, 3, none⟩) (.inl rfl) (.int .i64 (mn : Int))) (by rw [blk_set HW1.out.rp.blk 3 _]; rfl) rfl HW1.out.rp.le)
      have hm := hu.mine H.out
      have hw1m := Rw.mine (o := kidsO) H.out HW1.out
      obtain ⟨b0, b1, f0, f1⟩ := kids_cells hm
      obtain ⟨e0, e1, f0', f1'⟩ := kids_cells hw1m
      have HM := Lib.hid hm
      have HU := Lib.hid hu
      have HMN := Lib.hid hmn
      have hne : w.heap.size ≠ rb := by have := H.out.lt; omega
      clear hm hu hbig hmn hw1m
      go_wp2_with fail
      refine kids_ret rfl _ _ rfl rfl HM.out H.out (ResP.okI HFG.out ⟨?_, (Got.of HU.out HS.out ?_).slot (o := kidsO) H.out (fr_two _ _ _ _)⟩)
      · rw [HN1.out]
      · rw [HM0.out, HMN.out]
end Go.Proofs.YtkhjdcnlpablkaaDoor
