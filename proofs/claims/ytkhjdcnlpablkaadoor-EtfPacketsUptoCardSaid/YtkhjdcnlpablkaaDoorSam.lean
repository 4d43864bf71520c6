/- Same: two lists of cells. -/
import Derived.Test.YtkhjdcnlpablkaaDoorRun
namespace Go.Proofs.YtkhjdcnlpablkaaDoor
open Go.RowKit
open Go.Lib (byteCells)

theorem ba_inj {x y : ByteArray} (h : x.toList = y.toList) : x = y := by
  rw [ByteArray.toList_eq, ByteArray.toList_eq] at h
  exact ByteArray.ext (Array.toList_inj.1 h)

theorem take_succ_eq {α : Type} {l m : List α} {k : Nat} {c : α} (h : l.take k = m.take k) (hl : l[k]? = some c) (hm : m[k]? = some c) : l.take (k + 1) = m.take (k + 1) := by
  rw [List.take_add_one, List.take_add_one, h, hl, hm]

set_option maxHeartbeats 3200000 in
set_option maxRecDepth 100000 in
theorem same_any (l m : List Ce) (u v : Value) (w : World) (hu : Rd w 3 u l.length (cvs l)) (hv : Rd w 3 v m.length (cvs m)) :
    Calls Tryd.prog 12 #[u, v] w fun e w' => ∃ b : Bool, e = .returned (.bool b) ∧ (b = true ↔ l = m) ∧ Below w.heap.size w w' := by
  obtain ⟨ao1, cap1, rfl, hc1, hm1⟩ := hu.shape
  obtain ⟨ao2, cap2, rfl, hc2, hm2⟩ := hv.shape
  have HU := Lib.hid hu
  have HV := Lib.hid hv
  unfold maxLen at hm1 hm2
  clear hu hv
  by_cases hl : l.length = m.length
  · have q0 : (((l.length : Nat) : Int) == ((m.length : Nat) : Int)) = true := by simp [hl]
    have q1 : (((l.length : Nat) : Int) != ((m.length : Nat) : Int)) = false := by simp [hl]
    go_enter Tryd.func12, Tryd.ntmps12
    go_wp2_with fail
    clear q0 q1
    go_loopw [5] (fun s5 wr => ∃ k : Nat, k ≤ l.length ∧ s5 = .int .i64 k ∧ Below w.heap.size w wr ∧ Hid (l.take k = m.take k)) (fun s5 _ => l.length - (intOf s5).toNat)
    case atStart => exact ⟨0, by omega, rfl, Below.refl _ _, Lib.hid rfl⟩
    case round =>
      obtain ⟨k, hk, rfl, hbe, hI⟩ := hrel
      by_cases hlt : k < l.length
      · obtain ⟨c, hc⟩ : ∃ c, l[k]? = some c := ⟨l[k], List.getElem?_eq_getElem _⟩
        obtain ⟨d, hd⟩ : ∃ d, m[k]? = some d := ⟨m[k]'(by omega), List.getElem?_eq_getElem _⟩
        have hr1 := HU.out.below (Nat.le_refl _) hbe
        have hr2 := HV.out.below (Nat.le_refl _) hbe
        obtain ⟨g1, o1, c1', hv1, hp1, hp2, hp3⟩ := hr1.at (by omega)
        obtain ⟨g2, o2, c2', hv2, hp4, hp5, hp6⟩ := hr2.at (by omega)
        clear hp1 hp2 hp3 hp4 hp5 hp6
        simp at hv1 hv2
        obtain ⟨rfl, rfl⟩ := hv1
        obtain ⟨rfl, rfl⟩ := hv2
        obtain ⟨a0, a1, a2⟩ := rd_cell hr1 rfl hc
        obtain ⟨b0, b1, b2⟩ := rd_cell hr2 rfl hd
        have HC := Lib.hid hc
        have HD := Lib.hid hd
        have HBE := Lib.hid hbe
        have hbz := hbe.size
        have hkm : k < m.length := by omega
        have hkz : (k : Int) < (l.length : Int) := by omega
        have hkz2 : (k : Int) < (m.length : Int) := by omega
        have HX : Hid (c ≠ d → l ≠ m) := Lib.hid (fun hne e => hne (by rw [e] at hc; rw [hc] at hd; exact Option.some.inj hd))
        clear hc hd hr1 hr2 hbe
        obtain ⟨ck, cn, cs⟩ := c
        obtain ⟨dk, dn, ds⟩ := d
        simp only at a0 a1 a2 b0 b1 b2
        by_cases e1 : ck = dk
        · subst e1
          by_cases e2 : cn = dn
          · subst e2
            by_cases e3 : cs.toList = ds.toList
            · obtain rfl := ba_inj e3
              clear e3
              go_wp2_with fail
              go_quiet (fail)
              go_wp2_with fail
              go_roundw
              case rel => exact ⟨k + 1, by omega, by go_num, bel_drewN HBE.out _, Lib.hid (take_succ_eq hI.out HC.out HD.out)⟩
              case measure => simp [intOf]; omega
            · have HN : Hid (l ≠ m) := Lib.hid (HX.out (fun e => e3 (by cases e; rfl)))
              go_wp2_with fail
              go_quiet (fail)
              go_wp2_with fail
              go_ret
              exact ⟨false, rfl, by simp; exact HN.out, bel_drewN HBE.out _⟩
          · have HN : Hid (l ≠ m) := Lib.hid (HX.out (fun e => e2 (by cases e; rfl)))
            go_wp2_with fail
            go_quiet (fail)
            go_wp2_with fail
            go_ret
            exact ⟨false, rfl, by simp; exact HN.out, bel_drewN HBE.out _⟩
        · have HN : Hid (l ≠ m) := Lib.hid (HX.out (fun e => e1 (by cases e; rfl)))
          go_wp2_with fail
          go_quiet (fail)
          go_wp2_with fail
          go_ret
          exact ⟨false, rfl, by simp; exact HN.out, bel_drewN HBE.out _⟩
      · obtain rfl : k = l.length := by omega
        have HE : Hid (l = m) := Lib.hid (by
          have := hI.out
          rw [List.take_of_length_le (Nat.le_refl _), hl, List.take_of_length_le (Nat.le_refl _)] at this
          exact this)
        go_wp2_with fail
        go_ret
        exact ⟨true, rfl, by simp; exact HE.out, hbe⟩
  · have q0 : (((l.length : Nat) : Int) == ((m.length : Nat) : Int)) = false := by simp; omega
    have q1 : (((l.length : Nat) : Int) != ((m.length : Nat) : Int)) = true := by simp; omega
    go_enter Tryd.func12, Tryd.ntmps12
    go_wp2_with fail
    go_ret
    exact ⟨false, rfl, by simp; exact fun e => hl (by rw [e]), Below.refl _ _⟩
end Go.Proofs.YtkhjdcnlpablkaaDoor
