/- The document's Right; End, both sides. -/
import Derived.Test.YtkhjdcnlpablkaaDoorRig
namespace Go.Proofs.YtkhjdcnlpablkaaDoor
open Go.RowKit Go.Shelf
open Go.Lib (validD)

set_option maxHeartbeats 3200000 in
set_option maxRecDepth 100000 in
theorem rright_t (t : List Ce) (v : Value) (hz : ∀ c ∈ t, c.text.size ≤ maxLen) (w : World) (hrd : Rd w 3 v t.length (cvs t)) :
    Calls Tryd.prog 17 #[v] w fun e w' => e = .returned (.tuple #[.int .i64 (rightT t).1, .int .i64 (rightT t).2]) ∧ Below w.heap.size w w' := by
  obtain ⟨ao, cap, rfl, hcap, hmax⟩ := hrd.shape
  have HZ := Lib.hid hz
  have HR := Lib.hid hrd
  unfold maxLen at hmax
  clear hz hrd
  by_cases h0 : t.length = 0
  · obtain rfl : t = [] := List.eq_nil_of_length_eq_zero h0
    have HF : Hid (rightT [] = (5, 0)) := Lib.hid rfl
    clear h0
    go_enter Tryd.func17, Tryd.ntmps17
    go_wp2_with fail
    go_ret2
    exact ⟨by rw [HF.out]; rfl, Below.refl _ _⟩
  · have hne : t ≠ [] := fun e => h0 (by rw [e]; rfl)
    by_cases h1 : 1024 < t.length
    · have HF : Hid (rightT t = (7, 0)) := Lib.hid (by unfold rightT; rw [if_neg hne, if_pos h1])
      have q0 : ((t.length : Int) == 0) = false := by simp; omega
      have q1 : decide ((1024 : Int) < (t.length : Int)) = true := decide_eq_true (by omega)
      clear hne h0
      go_enter Tryd.func17, Tryd.ntmps17
      go_wp2_with fail
      go_ret2
      exact ⟨by rw [HF.out]; rfl, Below.refl _ _⟩
    · have HF : Hid (rightT t = scanR 1 0 t) := Lib.hid (by unfold rightT; rw [if_neg hne, if_neg h1])
      have q0 : ((t.length : Int) == 0) = false := by simp; omega
      have q1 : decide ((1024 : Int) < (t.length : Int)) = false := decide_eq_false (by omega)
      clear hne
      go_enter Tryd.func17, Tryd.ntmps17
      go_wp2_with fail
      go_loopg [4, 5] t.length (fun g s4 s18 wr => ∃ k d : Nat, k + g = t.length ∧ s18 = .int .i64 k ∧ s4 = .int .i64 d ∧ d ≤ 300000 ∧ d ≤ 1 + 255 * k ∧ Below w.heap.size w wr ∧ Hid (rightT t = scanR d k (t.drop k)))
      case atStart => exact ⟨0, 1, by omega, rfl, rfl, by omega, by omega, Below.refl _ _, HF⟩
      case round =>
        clear HF
        obtain ⟨k, d, hk, rfl, rfl, hd, hd2, hbe, hI⟩ := hrel
        by_cases hkl : k < t.length
        · obtain ⟨c, hc⟩ : ∃ c, t[k]? = some c := ⟨t[k], List.getElem?_eq_getElem _⟩
          have hrd := HR.out.below (Nat.le_refl _) hbe
          obtain ⟨g0, off, cap', hv, hq1, hq2, hq3⟩ := hrd.at (by omega)
          clear hq1 hq2 hq3
          simp at hv
          obtain ⟨rfl, rfl⟩ := hv
          obtain ⟨c0, c1, c2⟩ := rd_cell hrd rfl hc
          have hcs := HZ.out c (List.mem_of_getElem? hc)
          have hdr : t.drop k = c :: t.drop (k + 1) := by
            rw [List.drop_eq_getElem_cons hkl]
            congr 1
            rw [List.getElem?_eq_getElem hkl] at hc
            exact Option.some.inj hc
          have hst := hI.out
          rw [hdr] at hst
          simp only [scanR] at hst
          have HST := Lib.hid hst
          have hbl := beh_le c
          have hbz := hbe.size
          have H1 := Lib.hid (rcell_any c.kind c.n c.text hcs wr)
          have HBX := Lib.hid hbe
          have HRD := Lib.hid hrd
          clear hrd hc hdr hst hI hbe hcs
          go_wp2_with fail
          refine (H1.out).mono ?_
          rintro e w3 ⟨rfl, hb3⟩
          have HB3 := Lib.hid (HBX.out.trans (hb3.mono HBX.out.size))
          have d0 := (hb3.cell (World.block_lt_of_cell? wr _ c0)).trans c0
          have d1 := (hb3.cell (World.block_lt_of_cell? wr _ c1)).trans c1
          have d2 := (hb3.cell (World.block_lt_of_cell? wr _ c2)).trans c2
          clear hb3 c0 c1 c2
          obtain ⟨E, hE⟩ : ∃ E, cellE c.kind c.n c.text = E := ⟨_, rfl⟩
          have hE' : c.E = E := hE
          rw [hE]
          by_cases hE0 : E = 0
          · subst hE0
            by_cases hd0 : d = 0
            · subst hd0
              have HG : Hid (rightT t = (63, k)) := Lib.hid (by rw [HST.out, hE', if_neg (by simp), if_pos rfl])
              clear hE hE'
              go_wp2_with fail
              go_ret2
              exact ⟨by rw [HG.out]; rfl, HB3.out⟩
            · have HG : Hid (rightT t = scanR (d - 1 + c.beh) (k + 1) (t.drop (k + 1))) := Lib.hid (by rw [HST.out, hE', if_neg (by simp), if_neg hd0])
              have qd : ((d : Int) == 0) = false := by simp; omega
              have H2 := Lib.hid (kids_any c.kind c.n c.text w3)
              clear hE hE'
              go_wp2_with fail
              refine (H2.out).mono ?_
              rintro e w4 ⟨rfl, hb4⟩
              have HB4 := Lib.hid (HB3.out.trans (hb4.mono HB3.out.size))
              obtain ⟨m, hm⟩ : ∃ m, behN c.kind c.n = m := ⟨_, rfl⟩
              have hm' : c.beh = m := hm
              rw [hm'] at hbl HG
              rw [hm]
              clear hb4 hm hm' d0 d1 d2
              go_wp2_with fail
              go_roundg (t.length - (k + 1))
              case measure => omega
              case rel => exact ⟨k + 1, d - 1 + m, by omega, rfl, by first | rfl | (congr 1; omega), by omega, by omega, HB4.out, HG⟩
          · have HG : Hid (rightT t = (E, k)) := Lib.hid (by rw [HST.out, hE', if_pos hE0])
            have qE : ((E : Int) == 0) = false := by simp; omega
            have qE' : ((E : Int) != 0) = true := by simp; omega
            clear hE hE' hE0
            go_wp2_with fail
            go_ret2
            exact ⟨by rw [HG.out]; rfl, HB3.out⟩
        · obtain rfl : k = t.length := by omega
          have hst := hI.out
          rw [List.drop_of_length_le (Nat.le_refl _)] at hst
          simp only [scanR] at hst
          by_cases hd0 : d = 0
          · subst hd0
            have HG : Hid (rightT t = (0, 0)) := Lib.hid (by rw [hst]; rfl)
            clear hst hI
            go_wp2_with fail
            go_ret2
            exact ⟨by rw [HG.out]; rfl, hbe⟩
          · have HG : Hid (rightT t = (62, t.length)) := Lib.hid (by rw [hst, if_neg hd0])
            have qd : decide ((0 : Int) < (d : Int)) = true := decide_eq_true (by omega)
            have qd' : decide (0 < d) = true := decide_eq_true (by omega)
            clear hst hI
            go_wp2_with fail
            go_ret2
            exact ⟨by rw [HG.out]; rfl, hbe⟩
def endR : Nat → Nat → List Ce → Nat × Nat
  | _, _, [] => (0, 62)
  | w, i, c :: r => if w - 1 + c.beh = 0 then (i + 1, 0) else endR (w - 1 + c.beh) (i + 1) r
def endT (t : List Ce) (at' : Nat) : Nat × Nat := if t.length ≤ at' then (0, 1) else endR 1 at' (t.drop at')

set_option maxHeartbeats 3200000 in
set_option maxRecDepth 100000 in
theorem end_t (t : List Ce) (v : Value) (at' : Nat) (hlen : t.length ≤ 1024) (w : World) (hrd : Rd w 3 v t.length (cvs t)) :
    Calls Tryd.prog 89 #[v, .int .i64 at'] w fun e w' => e = .returned (.tuple #[.int .i64 (endT t at').1, .int .i64 (endT t at').2]) ∧ Below w.heap.size w w' := by
  obtain ⟨ao, cap, rfl, hcap, hmax⟩ := hrd.shape
  have HR := Lib.hid hrd
  unfold maxLen at hmax
  clear hrd
  by_cases h0 : t.length ≤ at'
  · have HF : Hid (endT t at' = (0, 1)) := Lib.hid (by unfold endT; rw [if_pos h0])
    have q0 : decide ((t.length : Int) ≤ (at' : Int)) = true := decide_eq_true (by omega)
    have q1 : decide (t.length ≤ at') = true := decide_eq_true (by omega)
    have q2 : decide ((at' : Int) < 0) = false := decide_eq_false (by omega)
    clear h0
    go_enter Tryd.func89, Tryd.ntmps89
    go_wp2_with fail
    go_ret2
    exact ⟨by rw [HF.out]; rfl, Below.refl _ _⟩
  · have HF : Hid (endT t at' = endR 1 at' (t.drop at')) := Lib.hid (by unfold endT; rw [if_neg h0])
    have q0 : decide ((t.length : Int) ≤ (at' : Int)) = false := decide_eq_false (by omega)
    have q1 : decide (t.length ≤ at') = false := decide_eq_false (by omega)
    have q2 : decide ((at' : Int) < 0) = false := decide_eq_false (by omega)
    go_enter Tryd.func89, Tryd.ntmps89
    go_wp2_with fail
    clear q0 q1 q2
    go_loopg [6, 7] t.length (fun g s6 s7 wr => ∃ k d : Nat, k ≤ t.length ∧ t.length - k ≤ g ∧ s7 = .int .i64 k ∧ s6 = .int .i64 d ∧ 1 ≤ d ∧ d ≤ 1 + 255 * k ∧ Below w.heap.size w wr ∧ Hid (endT t at' = endR d k (t.drop k)))
    case atStart => exact ⟨at', 1, by omega, by omega, rfl, rfl, by omega, by omega, Below.refl _ _, HF⟩
    case round =>
      clear HF
      obtain ⟨k, d, hk, hg, rfl, rfl, hd1, hd2, hbe, hI⟩ := hrel
      by_cases hkl : k < t.length
      · obtain ⟨c, hc⟩ : ∃ c, t[k]? = some c := ⟨t[k], List.getElem?_eq_getElem _⟩
        have hrd := HR.out.below (Nat.le_refl _) hbe
        obtain ⟨g0, off, cap', hv, hq1, hq2, hq3⟩ := hrd.at (by omega)
        clear hq1 hq2 hq3
        simp at hv
        obtain ⟨rfl, rfl⟩ := hv
        obtain ⟨c0, c1, c2⟩ := rd_cell hrd rfl hc
        have hdr : t.drop k = c :: t.drop (k + 1) := by
          rw [List.drop_eq_getElem_cons hkl]
          congr 1
          rw [List.getElem?_eq_getElem hkl] at hc
          exact Option.some.inj hc
        have hst := hI.out
        rw [hdr] at hst
        simp only [endR] at hst
        have HST := Lib.hid hst
        have hbl := beh_le c
        have hbz := hbe.size
        have H1 := Lib.hid (behind_any c.kind c.n c.text wr)
        have HBX := Lib.hid hbe
        obtain ⟨m, hm⟩ : ∃ m, behN c.kind c.n = m := ⟨_, rfl⟩
        have hm' : c.beh = m := hm
        rw [hm'] at hbl HST
        rw [hm] at H1
        clear hrd hc hdr hst hI hbe hm hm'
        go_wp2_with fail
        refine (H1.out).mono ?_
        rintro e w3 ⟨rfl, hb3⟩
        have HB3 := Lib.hid (HBX.out.trans (hb3.mono HBX.out.size))
        clear hb3 c0 c1 c2
        by_cases hz : d - 1 + m = 0
        · obtain rfl : d = 1 := by omega
          obtain rfl : m = 0 := by omega
          have HG : Hid (endT t at' = (k + 1, 0)) := Lib.hid (by rw [HST.out, if_pos rfl])
          go_wp2_with fail
          go_ret2
          exact ⟨by rw [HG.out]; rfl, HB3.out⟩
        · have HG : Hid (endT t at' = endR (d - 1 + m) (k + 1) (t.drop (k + 1))) := Lib.hid (by rw [HST.out, if_neg hz])
          obtain ⟨x, hx⟩ : ∃ x, d - 1 + m = x := ⟨_, rfl⟩
          have e1 : (d : Int) + ((m : Int) - 1) = (x : Int) := by omega
          have e2 : (d : Int) - 1 + (m : Int) = (x : Int) := by omega
          have qx : ((x : Int) == 0) = false := by simp; omega
          rw [hx] at HG
          have hx1 : 1 ≤ x := by omega
          have hx2 : x ≤ 1 + 255 * (k + 1) := by omega
          clear hx hz
          go_wp2_with fail
          go_roundg (t.length - (k + 1))
          case measure => omega
          case rel => exact ⟨k + 1, x, by omega, by omega, by go_num, rfl, hx1, hx2, HB3.out, HG⟩
      · obtain rfl : k = t.length := by omega
        have hst := hI.out
        rw [List.drop_of_length_le (Nat.le_refl _)] at hst
        simp only [endR] at hst
        have HG := Lib.hid hst
        clear hst hI
        go_wp2_with fail
        go_ret2
        exact ⟨by rw [HG.out]; rfl, hbe⟩

set_option maxHeartbeats 3200000 in
set_option maxRecDepth 100000 in
theorem rend_t (t : List Ce) (v : Value) (at' : Nat) (hlen : t.length ≤ 1024) (w : World) (hrd : Rd w 3 v t.length (cvs t)) :
    Calls Tryd.prog 75 #[v, .int .i64 at'] w fun e w' => e = .returned (.tuple #[.int .i64 (endT t at').1, .int .i64 (endT t at').2]) ∧ Below w.heap.size w w' := by
  obtain ⟨ao, cap, rfl, hcap, hmax⟩ := hrd.shape
  have HR := Lib.hid hrd
  unfold maxLen at hmax
  clear hrd
  by_cases h0 : t.length ≤ at'
  · have HF : Hid (endT t at' = (0, 1)) := Lib.hid (by unfold endT; rw [if_pos h0])
    have q0 : decide ((t.length : Int) ≤ (at' : Int)) = true := decide_eq_true (by omega)
    have q1 : decide (t.length ≤ at') = true := decide_eq_true (by omega)
    have q2 : decide ((at' : Int) < 0) = false := decide_eq_false (by omega)
    clear h0
    go_enter Tryd.func75, Tryd.ntmps75
    go_wp2_with fail
    go_ret2
    exact ⟨by rw [HF.out]; rfl, Below.refl _ _⟩
  · have HF : Hid (endT t at' = endR 1 at' (t.drop at')) := Lib.hid (by unfold endT; rw [if_neg h0])
    have q0 : decide ((t.length : Int) ≤ (at' : Int)) = false := decide_eq_false (by omega)
    have q1 : decide (t.length ≤ at') = false := decide_eq_false (by omega)
    have q2 : decide ((at' : Int) < 0) = false := decide_eq_false (by omega)
    go_enter Tryd.func75, Tryd.ntmps75
    go_wp2_with fail
    clear q0 q1 q2
    go_loopg [6, 7] t.length (fun g s6 s7 wr => ∃ k d : Nat, k ≤ t.length ∧ t.length - k ≤ g ∧ s7 = .int .i64 k ∧ s6 = .int .i64 d ∧ 1 ≤ d ∧ d ≤ 1 + 255 * k ∧ Below w.heap.size w wr ∧ Hid (endT t at' = endR d k (t.drop k)))
    case atStart => exact ⟨at', 1, by omega, by omega, rfl, rfl, by omega, by omega, Below.refl _ _, HF⟩
    case round =>
      clear HF
      obtain ⟨k, d, hk, hg, rfl, rfl, hd1, hd2, hbe, hI⟩ := hrel
      by_cases hkl : k < t.length
      · obtain ⟨c, hc⟩ : ∃ c, t[k]? = some c := ⟨t[k], List.getElem?_eq_getElem _⟩
        have hrd := HR.out.below (Nat.le_refl _) hbe
        obtain ⟨g0, off, cap', hv, hq1, hq2, hq3⟩ := hrd.at (by omega)
        clear hq1 hq2 hq3
        simp at hv
        obtain ⟨rfl, rfl⟩ := hv
        obtain ⟨c0, c1, c2⟩ := rd_cell hrd rfl hc
        have hdr : t.drop k = c :: t.drop (k + 1) := by
          rw [List.drop_eq_getElem_cons hkl]
          congr 1
          rw [List.getElem?_eq_getElem hkl] at hc
          exact Option.some.inj hc
        have hst := hI.out
        rw [hdr] at hst
        simp only [endR] at hst
        have HST := Lib.hid hst
        have hbl := beh_le c
        have hbz := hbe.size
        have H1 := Lib.hid (kids_any c.kind c.n c.text wr)
        have HBX := Lib.hid hbe
        obtain ⟨m, hm⟩ : ∃ m, behN c.kind c.n = m := ⟨_, rfl⟩
        have hm' : c.beh = m := hm
        rw [hm'] at hbl HST
        rw [hm] at H1
        clear hrd hc hdr hst hI hbe hm hm'
        go_wp2_with fail
        refine (H1.out).mono ?_
        rintro e w3 ⟨rfl, hb3⟩
        have HB3 := Lib.hid (HBX.out.trans (hb3.mono HBX.out.size))
        clear hb3 c0 c1 c2
        by_cases hz : d - 1 + m = 0
        · obtain rfl : d = 1 := by omega
          obtain rfl : m = 0 := by omega
          have HG : Hid (endT t at' = (k + 1, 0)) := Lib.hid (by rw [HST.out, if_pos rfl])
          go_wp2_with fail
          go_ret2
          exact ⟨by rw [HG.out]; rfl, HB3.out⟩
        · have HG : Hid (endT t at' = endR (d - 1 + m) (k + 1) (t.drop (k + 1))) := Lib.hid (by rw [HST.out, if_neg hz])
          obtain ⟨x, hx⟩ : ∃ x, d - 1 + m = x := ⟨_, rfl⟩
          have e1 : (d : Int) + ((m : Int) - 1) = (x : Int) := by omega
          have e2 : (d : Int) - 1 + (m : Int) = (x : Int) := by omega
          have qx : ((x : Int) == 0) = false := by simp; omega
          rw [hx] at HG
          have hx1 : 1 ≤ x := by omega
          have hx2 : x ≤ 1 + 255 * (k + 1) := by omega
          clear hx hz
          go_wp2_with fail
          go_roundg (t.length - (k + 1))
          case measure => omega
          case rel => exact ⟨k + 1, x, by omega, by omega, by go_num, rfl, hx1, hx2, HB3.out, HG⟩
      · obtain rfl : k = t.length := by omega
        have hst := hI.out
        rw [List.drop_of_length_le (Nat.le_refl _)] at hst
        simp only [endR] at hst
        have HG := Lib.hid hst
        clear hst hI
        go_wp2_with fail
        go_ret2
        exact ⟨by rw [HG.out]; rfl, hbe⟩

end Go.Proofs.YtkhjdcnlpablkaaDoor
