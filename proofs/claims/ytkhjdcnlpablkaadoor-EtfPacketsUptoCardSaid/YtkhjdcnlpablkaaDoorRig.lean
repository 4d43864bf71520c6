/- Right, End: what is wrong of a term; the place behind one. Both sides. -/
import Derived.Test.YtkhjdcnlpablkaaDoorCel2
namespace Go.Proofs.YtkhjdcnlpablkaaDoor
open Go.RowKit Go.Shelf
open Go.Lib (validD)

/-- A cell's cells in memory. -/
def cv (c : Ce) : List Value := [.int .i64 c.kind, .int .i64 c.n, .string c.text]
def cvs (t : List Ce) : List Value := t.flatMap cv

theorem cvs_len (t : List Ce) : (cvs t).length = t.length * 3 := by
  induction t with
  | nil => rfl
  | cons c r ih => simp only [cvs, List.flatMap_cons, List.length_append] at *; rw [ih]; simp [cv]; omega

theorem cvs_at {t : List Ce} {k : Nat} {c : Ce} (h : t[k]? = some c) (i : Nat) (hi : i < 3) : (cvs t)[k * 3 + i]? = (cv c)[i]? := by
  induction t generalizing k with
  | nil => simp at h
  | cons d r ih =>
    simp only [cvs, List.flatMap_cons]
    cases k with
    | zero =>
      simp at h
      subst h
      rw [List.getElem?_append_left (by simp [cv]; omega)]
      congr 1
      omega
    | succ k =>
      rw [List.getElem?_append_right (by simp [cv]; omega)]
      have := ih (k := k) (by simpa using h)
      rw [← this]
      simp only [cv, List.length_cons, List.length_nil]
      congr 1
      omega

def Ce.E (c : Ce) : Nat := cellE c.kind c.n c.text
def Ce.beh (c : Ce) : Nat := behN c.kind c.n
theorem beh_le (c : Ce) : c.beh ≤ 255 := by
  unfold Ce.beh behN
  split
  · omega
  · split <;> omega

def scanR : Nat → Nat → List Ce → Nat × Nat
  | w, i, [] => if w = 0 then (0, 0) else (62, i)
  | w, i, c :: r => if c.E ≠ 0 then (c.E, i) else if w = 0 then (63, i) else scanR (w - 1 + c.beh) (i + 1) r
def rightT (l : List Ce) : Nat × Nat := if l = [] then (5, 0) else if 1024 < l.length then (7, 0) else scanR 1 0 l

/-- Three cells of a slice of cells. -/
theorem rd_cell {w : World} {g off n cap : Nat} {t : List Ce} (h : Rd w 3 (.slice (some ⟨g, off, none⟩) n cap) n (cvs t)) (hn : t.length = n) {k : Nat} {c : Ce} (hc : t[k]? = some c) :
    w.cell? ⟨g, off + k * 3, none⟩ = some (.int .i64 c.kind) ∧ w.cell? ⟨g, off + k * 3 + 1, none⟩ = some (.int .i64 c.n) ∧ w.cell? ⟨g, off + k * 3 + 2, none⟩ = some (.string c.text) := by
  have hk := (List.getElem?_eq_some_iff.1 hc).1
  obtain ⟨g', off', cap', hv, _, _, h1⟩ := h.at (by omega)
  simp at hv
  obtain ⟨⟨rfl, rfl⟩, rfl⟩ := hv
  have e0 := h1 (k * 3 + 0) (by omega)
  have e1 := h1 (k * 3 + 1) (by omega)
  have e2 := h1 (k * 3 + 2) (by omega)
  rw [cvs_at hc 0 (by omega)] at e0
  rw [cvs_at hc 1 (by omega)] at e1
  rw [cvs_at hc 2 (by omega)] at e2
  exact ⟨e0, e1, e2⟩

set_option maxHeartbeats 3200000 in
set_option maxRecDepth 100000 in
theorem right_t (t : List Ce) (v : Value) (hz : ∀ c ∈ t, c.text.size ≤ maxLen) (w : World) (hrd : Rd w 3 v t.length (cvs t)) (hT : Lib.Utf8Tabs 0 1 w) :
    Calls Tryd.prog 34 #[v] w fun e w' => e = .returned (.tuple #[.int .i64 (rightT t).1, .int .i64 (rightT t).2]) ∧ Below w.heap.size w w' := by
  obtain ⟨ao, cap, rfl, hcap, hmax⟩ := hrd.shape
  have HT := Lib.hid hT
  have HZ := Lib.hid hz
  have HR := Lib.hid hrd
  unfold maxLen at hmax
  clear hT hz hrd
  by_cases h0 : t.length = 0
  · obtain rfl : t = [] := List.eq_nil_of_length_eq_zero h0
    have HF : Hid (rightT [] = (5, 0)) := Lib.hid rfl
    clear h0
    go_enter Tryd.func34, Tryd.ntmps34
    go_wp2_with fail
    go_ret2
    exact ⟨by rw [HF.out]; rfl, Below.refl _ _⟩
  · have hne : t ≠ [] := fun e => h0 (by rw [e]; rfl)
    by_cases h1 : 1024 < t.length
    · have HF : Hid (rightT t = (7, 0)) := Lib.hid (by unfold rightT; rw [if_neg hne, if_pos h1])
      have q0 : ((t.length : Int) == 0) = false := by simp; omega
      have q1 : decide ((1024 : Int) < (t.length : Int)) = true := decide_eq_true (by omega)
      clear hne h0
      go_enter Tryd.func34, Tryd.ntmps34
      go_wp2_with fail
      go_ret2
      exact ⟨by rw [HF.out]; rfl, Below.refl _ _⟩
    · have HF : Hid (rightT t = scanR 1 0 t) := Lib.hid (by unfold rightT; rw [if_neg hne, if_neg h1])
      have q0 : ((t.length : Int) == 0) = false := by simp; omega
      have q1 : decide ((1024 : Int) < (t.length : Int)) = false := decide_eq_false (by omega)
      clear hne
      go_enter Tryd.func34, Tryd.ntmps34
      go_wp2_with fail
      go_loopg [4, 18] t.length (fun g s4 s18 wr => ∃ k d : Nat, k + g = t.length ∧ s18 = .int .i64 k ∧ s4 = .int .i64 d ∧ d ≤ 300000 ∧ d ≤ 1 + 255 * k ∧ Below w.heap.size w wr ∧ Hid (rightT t = scanR d k (t.drop k)))
      case atStart => exact ⟨0, 1, by omega, rfl, rfl, by omega, by omega, Below.refl _ _, HF⟩
      case round =>
        clear HF
        obtain ⟨k, d, hk, rfl, rfl, hd, hd2, hbe, hI⟩ := hrel
        by_cases hkl : k < t.length
        · obtain ⟨c, hc⟩ : ∃ c, t[k]? = some c := ⟨t[k], List.getElem?_eq_getElem _⟩
          have hrd := HR.out.below (Nat.le_refl _) hbe
          obtain ⟨g0, off, cap', hv, hq1, hq2, hq3⟩ := hrd.at (by omega)
          clear hq1 hq2 hq3
          simp at hv
          obtain ⟨rfl, rfl⟩ := hv
          obtain ⟨c0, c1, c2⟩ := rd_cell hrd rfl hc
          have hcs := HZ.out c (List.mem_of_getElem? hc)
          have hT1 := tabs_below HT.out (Nat.le_refl _) hbe
          have hdr : t.drop k = c :: t.drop (k + 1) := by
            rw [List.drop_eq_getElem_cons hkl]
            congr 1
            rw [List.getElem?_eq_getElem hkl] at hc
            exact Option.some.inj hc
          have hst := hI.out
          rw [hdr] at hst
          simp only [scanR] at hst
          have HST := Lib.hid hst
          have hbl := beh_le c
          have hbz := hbe.size
          have hbx := hbe.alloc hbe.size (.cells #[.int .i64 c.kind, .int .i64 c.n, .string c.text] 60)
          have H1 := Lib.hid (cell_any c.kind c.n c.text hcs (wr.alloc (.cells #[.int .i64 c.kind, .int .i64 c.n, .string c.text] 60)) (tabs_below HT.out (Nat.le_refl _) hbx))
          have HBX := Lib.hid hbx
          have HNEW := Lib.hid (heap_alloc_new wr (.cells #[.int .i64 c.kind, .int .i64 c.n, .string c.text] 60))
          clear hrd hc hT1 hdr hst hI hbe hbx hcs
          go_wp2_with fail
          refine (H1.out).mono ?_
          rintro e w3 ⟨rfl, hb3⟩
          have hnew := (hb3.block wr.heap.size (by simp)).trans HNEW.out
          have d0 := blk_cell hnew 0
          have d1 := blk_cell hnew 1
          have d2 := blk_cell hnew 2
          simp at d0 d1 d2
          have HB3 := Lib.hid (HBX.out.trans (hb3.mono HBX.out.size))
          clear hb3 hnew c0 c1 c2
          obtain ⟨E, hE⟩ : ∃ E, cellE c.kind c.n c.text = E := ⟨_, rfl⟩
          have hE' : c.E = E := hE
          rw [hE]
          by_cases hE0 : E = 0
          · subst hE0
            by_cases hd0 : d = 0
            · subst hd0
              have HG : Hid (rightT t = (63, k)) := Lib.hid (by rw [HST.out, hE', if_neg (by simp), if_pos rfl])
              clear hE hE'
              go_wp2_with fail
              go_ret2
              exact ⟨by rw [HG.out]; rfl, HB3.out⟩
            · have HG : Hid (rightT t = scanR (d - 1 + c.beh) (k + 1) (t.drop (k + 1))) := Lib.hid (by rw [HST.out, hE', if_neg (by simp), if_neg hd0])
              have qd : ((d : Int) == 0) = false := by simp; omega
              have H2 := Lib.hid (behind_any c.kind c.n c.text w3)
              clear hE hE'
              go_wp2_with fail
              refine (H2.out).mono ?_
              rintro e w4 ⟨rfl, hb4⟩
              have HB4 := Lib.hid (HB3.out.trans (hb4.mono HB3.out.size))
              obtain ⟨m, hm⟩ : ∃ m, behN c.kind c.n = m := ⟨_, rfl⟩
              have hm' : c.beh = m := hm
              rw [hm'] at hbl HG
              rw [hm]
              clear hb4 hm hm' d0 d1 d2
              go_wp2_with fail
              go_roundg (t.length - (k + 1))
              case measure => omega
              case rel => exact ⟨k + 1, d - 1 + m, by omega, rfl, by first | rfl | (congr 1; omega), by omega, by omega, HB4.out, HG⟩
          · have HG : Hid (rightT t = (E, k)) := Lib.hid (by rw [HST.out, hE', if_pos hE0])
            have qE : ((E : Int) == 0) = false := by simp; omega
            have qE' : ((E : Int) != 0) = true := by simp; omega
            clear hE hE' hE0
            go_wp2_with fail
            go_ret2
            exact ⟨by rw [HG.out]; rfl, HB3.out⟩
        · obtain rfl : k = t.length := by omega
          have hst := hI.out
          rw [List.drop_of_length_le (Nat.le_refl _)] at hst
          simp only [scanR] at hst
          by_cases hd0 : d = 0
          · subst hd0
            have HG : Hid (rightT t = (0, 0)) := Lib.hid (by rw [hst]; rfl)
            clear hst hI
            go_wp2_with fail
            go_ret2
            exact ⟨by rw [HG.out]; rfl, hbe⟩
          · have HG : Hid (rightT t = (62, t.length)) := Lib.hid (by rw [hst, if_neg hd0])
            have qd : decide ((0 : Int) < (d : Int)) = true := decide_eq_true (by omega)
            have qd' : decide (0 < d) = true := decide_eq_true (by omega)
            clear hst hI
            go_wp2_with fail
            go_ret2
            exact ⟨by rw [HG.out]; rfl, hbe⟩
end Go.Proofs.YtkhjdcnlpablkaaDoor
