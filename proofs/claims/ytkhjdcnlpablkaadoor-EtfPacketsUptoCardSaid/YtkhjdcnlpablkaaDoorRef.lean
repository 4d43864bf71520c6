/- The program's reader: a reference. Printed by genRef.py. -/
import Derived.Test.YtkhjdcnlpablkaaDoorLong
namespace Go.Proofs.YtkhjdcnlpablkaaDoor
open Go.RowKit
open Go.Lib (byteCells)

theorem or_low (n x : Int) (hn0 : 0 ≤ n) (hn : n < 4294967296) (hx0 : 0 ≤ x) (hx : x ≤ 65536) : bits .or .i64 n (wrap64 (x * 4294967296)) = n + x * 4294967296 := by
  rw [w64, wraps_i64 _ (by omega) (by omega)]
  exact bits_join_low .i64 62 (by decide) wraps_i64 32 _ _ hn0 (by omega) (by omega) (by omega) (by omega) (by omega)

/-- What is known of a reference's first words: j of them are read. -/
def RefI (l : List UInt8) (k j : Nat) (sp : Bool) (n : Int) : Prop :=
  (sp = true → refV l k = none) ∧ (sp = false → 1 ≤ k ∧ k ≤ 5 ∧ n = ((if j = 0 then 0 else refW l 0 + refX l j * 4294967296 : Nat) : Int) ∧ refX l j ≤ 65536 ∧ ∀ i, 2 ≤ i → i < j → refW l i = 0)

theorem refW_lt (l : List UInt8) (i : Nat) (h : 4 * i + 4 ≤ l.length) : refW l i < 4294967296 := by
  have := beN_lt (rest l (4 * i) 4)
  rw [rest_len h] at this
  exact this
theorem refX_eq {l : List UInt8} {k : Nat} (h : 2 ≤ k) : refX l k = refW l 1 := if_neg (by omega)
theorem RefI.start (l : List UInt8) (k : Nat) : RefI l k 0 (decide (k < 1) || decide (5 < k)) 0 := by
  refine ⟨fun h => ?_, fun h => ?_⟩
  · unfold refV
    simp at h
    rw [if_pos (by omega)]
  · simp at h
    exact ⟨by omega, by omega, rfl, by show (if 0 < 2 then 0 else _) ≤ _; rw [if_pos (by omega)]; omega, fun i h1 h2 => by omega⟩
theorem RefI.first {l : List UInt8} {k : Nat} {n : Int} (h : RefI l k 0 false n) : RefI l k 1 false (refW l 0 : Nat) := by
  obtain ⟨h1, h2, _, _, _⟩ := h.2 rfl
  exact ⟨fun h => (by cases h), fun _ => ⟨h1, h2, by rw [if_neg (by omega)]; show _ = ((refW l 0 + (if 1 < 2 then 0 else _) * 4294967296 : Nat) : Int); rw [if_pos (by omega)]; simp, by show (if 1 < 2 then 0 else _) ≤ _; rw [if_pos (by omega)]; omega, fun i h1 h2 => by omega⟩⟩
theorem RefI.second {l : List UInt8} {k : Nat} {n m : Int} (h : RefI l k 1 false n) (hk : 1 < k) (hm : refW l 1 ≤ 65536 → m = n + (refW l 1 : Nat) * 4294967296) : RefI l k 2 (decide (65536 < refW l 1)) m := by
  obtain ⟨h1, h2, h3, _, _⟩ := h.2 rfl
  refine ⟨fun hs => ?_, fun hs => ?_⟩
  · unfold refV
    rw [if_neg (by omega), if_pos (.inl (by rw [refX_eq (by omega)]; simpa using hs))]
  · have hs' : refW l 1 ≤ 65536 := by simpa using hs
    refine ⟨h1, h2, ?_, by rw [refX_eq (by omega)]; exact hs', fun i a b => by omega⟩
    rw [hm hs', h3, if_neg (by omega), if_neg (by omega), refX_eq (Nat.le_refl 2)]
    show ((refW l 0 + (if 1 < 2 then 0 else _) * 4294967296 : Nat) : Int) + _ = _
    rw [if_pos (by omega)]
    omega
theorem RefI.more {l : List UInt8} {k j : Nat} {n : Int} (h : RefI l k j false n) (hj : 2 ≤ j) (hk : j < k) : RefI l k (j + 1) (decide (refW l j ≠ 0)) n := by
  obtain ⟨h1, h2, h3, h4, h5⟩ := h.2 rfl
  refine ⟨fun hs => ?_, fun hs => ?_⟩
  · unfold refV
    have hany : (List.range k).any (fun i => decide (2 ≤ i ∧ refW l i ≠ 0)) = true := by
      rw [List.any_eq_true]
      exact ⟨j, List.mem_range.2 hk, by simpa [hj] using hs⟩
    rw [if_neg (by omega), if_pos (.inr hany)]
  · have hs' : refW l j = 0 := by simpa using hs
    refine ⟨h1, h2, ?_, by rw [refX_eq (by omega), ← refX_eq hj]; exact h4, fun i a b => ?_⟩
    · rw [h3, if_neg (by omega), if_neg (by omega), refX_eq hj, refX_eq (show 2 ≤ j + 1 by omega)]
    · by_cases hi : i = j
      · rw [hi]; exact hs'
      · exact h5 i a (by omega)
theorem RefI.last {l : List UInt8} {k : Nat} {n : Int} (h : RefI l k k false n) : refV l k = if n < 1 ∨ 281474976710656 < n then none else some n.toNat := by
  obtain ⟨h1, h2, h3, h4, h5⟩ := h.2 rfl
  rw [if_neg (by omega)] at h3
  unfold refV
  rw [if_neg (by omega), if_neg]
  · subst h3
    by_cases hb : refW l 0 + refX l k * 4294967296 < 1 ∨ 281474976710656 < refW l 0 + refX l k * 4294967296
    · rw [if_pos hb, if_pos (by omega)]
    · rw [if_neg hb, if_neg (by omega)]
      congr 1
  · intro hh
    rcases hh with hh | hh
    · omega
    · rw [List.any_eq_true] at hh
      obtain ⟨i, hi, hd⟩ := hh
      have hi := List.mem_range.1 hi
      simp at hd
      exact hd.2 (h5 i hd.1 hi)

set_option maxHeartbeats 6400000 in
set_option maxRecDepth 100000 in
theorem ref_any (B rb : Nat) (bv sv : Value) (bs : List UInt8) (s : Pr) (s0 : Rs) (hlen : bs.length ≤ 1048576) (hpos : 1 ≤ bs.length) (w : World) (h : Rp B w rb bv sv bs s) (hs : s.why = 0) (hcl : s.cells ≤ 1024) (hol : s.out.length ≤ 10000000)
    (hT : ∀ W, Below B w W → Lib.Utf8Tabs 0 1 W) (h0 : s0.cells = s.cells) (h1 : s0.out = s.out) :
    Calls Tryd.prog 55 #[.pointer (some ⟨rb, 0, none⟩)] w fun r w' => ResP ((refD bs s.pos s.tag).bind fun x => madeD s0 x.2 s.tag ⟨3, x.1, ⟨#[]⟩⟩)
      (fun x => r = .returned (.tuple #[]) ∧ Got B w rb bv sv bs w' x.1 ∧ x.2 = (0, false))
      (fun e p => r = .returned (.tuple #[]) ∧ Er B w rb bv sv bs e p w') := by
  have HS := Lib.hid hs
  have H := Lib.hid h
  have HT := Lib.hid hT
  have HC := Lib.hid (⟨hcl, hol⟩ : s.cells ≤ 1024 ∧ s.out.length ≤ 10000000)
  have H01 := Lib.hid (⟨h0, h1⟩ : s0.cells = s.cells ∧ s0.out = s.out)
  have c2 := h.fld.2.1
  have H1 := number_res B rb bv sv bs s 2 hlen hpos (by omega) w h hs
  obtain ⟨tg, htg⟩ : ∃ tg, s.tag = tg := ⟨_, rfl⟩
  rw [htg] at c2 ⊢
  obtain ⟨X, hX⟩ : ∃ X, ((refD bs s.pos tg).bind fun x => madeD s0 x.2 tg ⟨3, x.1, ⟨#[]⟩⟩) = X := ⟨_, rfl⟩
  have HX := Lib.hid (show X = (refD bs s.pos tg).bind fun x => madeD s0 x.2 tg ⟨3, x.1, ⟨#[]⟩⟩ from hX.symm)
  rw [hX]
  clear h hs hT hcl hol h0 h1 hX htg
  cases hk : numD bs s.pos 2 with
  | bad e p =>
    replace H1 := Lib.hid (callsBad H1 hk)
    have HF : Hid (X = .bad e p) := Lib.hid (by rw [HX.out]; unfold refD; rw [hk]; rfl)
    clear hk
    go_enter Tryd.func55, Tryd.ntmps55
    go_wp2_with fail
    refine (H1.out).mono ?_
    rintro r wx ⟨rfl, hE⟩
    have HNE := Lib.hid (host_er hE)
    clear hE
    go_wp2_with fail
    refine (HNE.out).mono ?_
    rintro r wx ⟨rfl, hE⟩
    clear HNE
    have HNE := Lib.hid (number_er 4 hE)
    clear hE
    go_wp2_with fail
    refine (HNE.out).mono ?_
    rintro r wx ⟨rfl, hE⟩
    clear HNE
    have HNE := Lib.hid (take_er 0 hE)
    clear hE
    go_wp2_with fail
    refine (HNE.out).mono ?_
    rintro r wx ⟨rfl, hE⟩
    clear HNE
    obtain ⟨c5, q1, q2⟩ := hE.why
    have HE := Lib.hid hE
    clear hE
    go_wp2_with fail
    refine bodyPost_ret (results_none rfl _ _ _) rfl ?_
    exact ResP.badI HF.out ⟨rfl, HE.out⟩
  | ok k =>
    replace H1 := Lib.hid (callsOk H1 hk)
    have hkb : k < 65536 := by
      have h1 := numD_ok hk
      have h2 := beN_lt (rest bs s.pos 2)
      rw [rest_len h1.1, ← h1.2] at h2
      exact h2
    have k4 : IntKind.i64.wrap (4 * (k : Int)) = ((4 * k : Nat) : Int) := by rw [IntKind.wrap_i64]; omega
    cases hh : hostD bs (s.pos + 2) with
    | bad e q =>
      have HF : Hid (X = .bad e q) := Lib.hid (by rw [HX.out]; unfold refD; rw [hk]; simp only [Res.bind]; rw [hh])
      have HH := Lib.hid hh
      clear hk hh
      go_enter Tryd.func55, Tryd.ntmps55
      go_wp2_with fail
      refine (H1.out).mono ?_
      rintro r w1 ⟨rfl, h1⟩
      have H2 := Lib.hid (callsBad (host_any B rb bv sv bs _ hlen hpos w1 h1.rp HS.out (fun W hW => HT.out W ((h1.bel H.out).trans hW))) HH.out)
      have HW1 := Lib.hid h1
      clear h1
      go_wp2_with fail
      refine (H2.out).mono ?_
      rintro r wx ⟨rfl, hE⟩
      have HNE := Lib.hid (number_er 4 hE)
      clear hE
      go_wp2_with fail
      refine (HNE.out).mono ?_
      rintro r wx ⟨rfl, hE⟩
      clear HNE
      have HNE := Lib.hid (fun n => take_er n hE)
      clear hE
      go_wp2_with fail
      refine (HNE.out _).mono ?_
      rintro r wx ⟨rfl, hE⟩
      clear HNE
      obtain ⟨c5, q1, q2⟩ := hE.why
      have HE := Lib.hid hE
      clear hE
      go_wp2_with fail
      refine bodyPost_ret (results_none rfl _ _ _) rfl ?_
      exact ResP.badI HF.out ⟨rfl, Er.behind HW1.out HE.out⟩
    | ok p =>
      have HH := Lib.hid hh
      cases hn : numD bs p 4 with
      | bad e q =>
        have HF : Hid (X = .bad e q) := Lib.hid (by rw [HX.out]; unfold refD; rw [hk]; simp only [Res.bind]; rw [hh]; simp only; rw [hn])
        have HN := Lib.hid hn
        clear hk hh hn
        go_enter Tryd.func55, Tryd.ntmps55
        go_wp2_with fail
        refine (H1.out).mono ?_
        rintro r w1 ⟨rfl, h1⟩
        have H2 := Lib.hid (callsOk (host_any B rb bv sv bs _ hlen hpos w1 h1.rp HS.out (fun W hW => HT.out W ((h1.bel H.out).trans hW))) HH.out)
        have HW1 := Lib.hid h1
        clear h1
        go_wp2_with fail
        refine (H2.out).mono ?_
        rintro r w2 ⟨rfl, h2⟩
        have H3 := Lib.hid (callsBad (number_res B rb bv sv bs _ 4 hlen hpos (by omega) w2 h2.rp HS.out) HN.out)
        have HW2 := Lib.hid (HW1.out.trans h2)
        clear h2
        go_wp2_with fail
        refine (H3.out).mono ?_
        rintro r wx ⟨rfl, hE⟩
        have HNE := Lib.hid (fun n => take_er n hE)
        clear hE
        go_wp2_with fail
        refine (HNE.out _).mono ?_
        rintro r wx ⟨rfl, hE⟩
        clear HNE
        obtain ⟨c5, q1, q2⟩ := hE.why
        have HE := Lib.hid hE
        clear hE
        go_wp2_with fail
        refine bodyPost_ret (results_none rfl _ _ _) rfl ?_
        exact ResP.badI HF.out ⟨rfl, Er.behind HW2.out HE.out⟩
      | ok z =>
        have HN := Lib.hid hn
        cases hl : takeD bs (p + 4) (4 * k) with
        | bad e q =>
          have HF : Hid (X = .bad e q) := Lib.hid (by rw [HX.out]; unfold refD; rw [hk]; simp only [Res.bind]; rw [hh]; simp only; rw [hn]; simp only; rw [hl])
          have HL := Lib.hid hl
          clear hk hh hn hl
          go_enter Tryd.func55, Tryd.ntmps55
          go_wp2_with fail
          refine (H1.out).mono ?_
          rintro r w1 ⟨rfl, h1⟩
          have H2 := Lib.hid (callsOk (host_any B rb bv sv bs _ hlen hpos w1 h1.rp HS.out (fun W hW => HT.out W ((h1.bel H.out).trans hW))) HH.out)
          have HW1 := Lib.hid h1
          clear h1
          go_wp2_with fail
          refine (H2.out).mono ?_
          rintro r w2 ⟨rfl, h2⟩
          have H3 := Lib.hid (callsOk (number_res B rb bv sv bs _ 4 hlen hpos (by omega) w2 h2.rp HS.out) HN.out)
          have HW2 := Lib.hid (HW1.out.trans h2)
          clear h2
          go_wp2_with fail
          refine (H3.out).mono ?_
          rintro r w3 ⟨rfl, h3⟩
          have H4 := Lib.hid (callsBad (take_res B rb bv sv bs _ (4 * k) hlen hpos (by omega) w3 h3.rp HS.out) HL.out)
          have HW3 := Lib.hid (HW2.out.trans h3)
          clear h3
          go_wp2_with fail
          refine (H4.out).mono ?_
          rintro r wx ⟨rfl, hE⟩
          obtain ⟨c5, q1, q2⟩ := hE.why
          have HE := Lib.hid hE
          clear hE
          go_wp2_with fail
          refine bodyPost_ret (results_none rfl _ _ _) rfl ?_
          exact ResP.badI HF.out ⟨rfl, Er.behind HW3.out HE.out⟩
        | ok l =>
          have HL := Lib.hid hl
          have hll : l.length = 4 * k := by
            have h1 := takeD_ok hl
            rw [h1.2]; exact rest_len h1.1
          have hkl : 4 * k ≤ 1048576 := by have := (takeD_ok hl).1; omega
          have HLL := Lib.hid hll
          have HF : Hid (X = (match refV l k with | none => Res.bad 1 tg | some n => .ok ((n : Int), p + 4 + 4 * k)).bind fun x => madeD s0 x.2 tg ⟨3, x.1, ⟨#[]⟩⟩) := Lib.hid (by rw [HX.out]; unfold refD; rw [hk]; simp only [Res.bind]; rw [hh]; simp only; rw [hn]; simp only; rw [hl]; rfl)
          clear hk hh hn hl hll
          go_enter Tryd.func55, Tryd.ntmps55
          go_wp2_with fail
          refine (H1.out).mono ?_
          rintro r w1 ⟨rfl, h1⟩
          have H2 := Lib.hid (callsOk (host_any B rb bv sv bs _ hlen hpos w1 h1.rp HS.out (fun W hW => HT.out W ((h1.bel H.out).trans hW))) HH.out)
          have HW1 := Lib.hid h1
          clear h1
          go_wp2_with fail
          refine (H2.out).mono ?_
          rintro r w2 ⟨rfl, h2⟩
          have H3 := Lib.hid (callsOk (number_res B rb bv sv bs _ 4 hlen hpos (by omega) w2 h2.rp HS.out) HN.out)
          have HW2 := Lib.hid (HW1.out.trans h2)
          clear h2
          go_wp2_with fail
          refine (H3.out).mono ?_
          rintro r w3 ⟨rfl, h3⟩
          have H4 := Lib.hid (callsOk (take_res B rb bv sv bs _ (4 * k) hlen hpos (by omega) w3 h3.rp HS.out) HL.out)
          have HW3 := Lib.hid (HW2.out.trans h3)
          clear h3
          go_wp2_with fail
          refine (H4.out).mono ?_
          rintro r w4 ⟨⟨g, off, cap, rfl, hrd⟩, h4⟩
          have HW4 := Lib.hid (HW3.out.trans h4)
          have HRD := Lib.hid hrd
          have c5 := h4.rp.fld.2.2.2
          simp only at c5
          rw [HS.out] at c5
          have HR4 := Lib.hid h4.rp
          clear h4 hrd
          by_cases hk1 : k < 1
          · obtain rfl : k = 0 := by omega
            have HSP := Lib.hid (RefI.start l 0)
            have HFB : Hid (X = .bad 1 tg) := Lib.hid (by rw [HF.out, HSP.out.1 rfl]; rfl)
            have HBE := Lib.hid (Below.refl w4.heap.size w4)
            go_wp2_with fail
            go_loopg [5, 6, 7] 0 (fun g s5 s6 s7 wr => s5 = .int .i64 0 ∧ s6 = .bool true ∧ s7 = .int .i64 0 ∧ wr = w4)
            case atStart => exact ⟨rfl, rfl, rfl, rfl⟩
            case round =>
              obtain ⟨rfl, rfl, rfl, rfl⟩ := hrel
              have hR := HR4.out.below HBE.out
              obtain ⟨f2, hu⟩ := hR.setTag tg
              have d2' := hR.fld.2.1
              simp only at d2'
              have HU := Lib.hid ((HW4.out.below HBE.out).trans hu)
              have H5 := Lib.hid (fail_any B rb bv sv bs _ 1 tg _ hu.rp)
              clear hR hu c5
              go_wp2_with fail
              refine (H5.out).mono ?_
              rintro r w5 ⟨rfl, h5⟩
              have hE : Er B w rb bv sv bs 1 tg w5 := .fail (HU.out.trans h5) HS.out (by omega)
              clear h5 d2' f2 H5
              obtain ⟨c5e, q1, q2⟩ := hE.why
              have H9 := Lib.hid fun v => made_er 3 v ⟨#[]⟩ 1 hE
              clear hE
              go_wp2_with fail
              refine (H9.out _).mono ?_
              rintro r w9 ⟨rfl, hE⟩
              have HE := Lib.hid hE
              clear hE
              go_wp2_with fail
              go_end0
              exact ResP.badI HFB.out ⟨rfl, HE.out⟩
          · have hk1' : decide ((k : Int) < 1) = false := by simp; omega
            obtain ⟨sp, hsp⟩ : ∃ sp, decide (5 < (k : Int)) = sp := ⟨_, rfl⟩
            have HSP := Lib.hid (RefI.start l k)
            rw [show (decide (k < 1) || decide (5 < k)) = sp by rw [← hsp]; rw [show decide (k < 1) = false by simp; omega, Bool.false_or]; congr 1; simp; try omega] at HSP
            have hrn := HRD.out.now.at (by omega)
            obtain ⟨_, _, _, hrv, hcap, hcapm, _⟩ := hrn
            simp at hrv
            obtain ⟨⟨rfl, rfl⟩, rfl⟩ := hrv
            unfold maxLen at hcapm
            go_wp2_with fail
            go_loopg [5, 6, 7] k (fun g s5 s6 s7 wr => ∃ (j : Nat) (n : Int) (sp : Bool), s5 = .int .i64 n ∧ s6 = .bool sp ∧ s7 = .int .i64 ((4 * j : Nat) : Int) ∧ j + g = k ∧ Below w4.heap.size w4 wr ∧ Hid (RefI l k j sp n))
            case atStart => exact ⟨0, 0, sp, rfl, rfl, rfl, by omega, Below.refl _ _, HSP⟩
            case round =>
              clear HSP hsp
              obtain ⟨j, n, sp, rfl, rfl, rfl, hjg, hbe, HI⟩ := hrel
              have HBE := Lib.hid hbe
              obtain ⟨i4, hi4⟩ : ∃ i4, 4 * j = i4 := ⟨_, rfl⟩
              rw [hi4]
              have w1 : IntKind.i64.wrap ((i4 : Int) + 4) = ((i4 + 4 : Nat) : Int) := by rw [IntKind.wrap_i64]; omega
              cases sp with
              | true =>
                have HFB : Hid (X = .bad 1 tg) := Lib.hid (by rw [HF.out, HI.out.1 rfl]; rfl)
                cases gk with
                | zero =>
                  have d1 : decide ((i4 : Int) + 4 ≤ 4 * (k : Int)) = false := by simp; omega
                  have d2 : decide (i4 + 4 ≤ 4 * k) = false := by simp; omega
                  have hR := HR4.out.below HBE.out
                  obtain ⟨f2, hu⟩ := hR.setTag tg
                  have d2' := hR.fld.2.1
                  simp only at d2'
                  have HU := Lib.hid ((HW4.out.below HBE.out).trans hu)
                  have H5 := Lib.hid (fail_any B rb bv sv bs _ 1 tg _ hu.rp)
                  clear hR hu c5
                  go_wp2_with fail
                  refine (H5.out).mono ?_
                  rintro r w5 ⟨rfl, h5⟩
                  have hE : Er B w rb bv sv bs 1 tg w5 := .fail (HU.out.trans h5) HS.out (by omega)
                  clear h5 d2' f2 H5
                  obtain ⟨c5e, q1, q2⟩ := hE.why
                  have H9 := Lib.hid fun v => made_er 3 v ⟨#[]⟩ 1 hE
                  clear hE
                  go_wp2_with fail
                  refine (H9.out _).mono ?_
                  rintro r w9 ⟨rfl, hE⟩
                  have HE := Lib.hid hE
                  clear hE
                  go_wp2_with fail
                  go_end0
                  exact ResP.badI HFB.out ⟨rfl, HE.out⟩
                | succ g' =>
                  have d1 : decide ((i4 : Int) + 4 ≤ 4 * (k : Int)) = true := by simp; omega
                  have d2 : decide (i4 + 4 ≤ 4 * k) = true := by simp; omega
                  have hR := HR4.out.below HBE.out
                  obtain ⟨f2, hu⟩ := hR.setTag tg
                  have d2' := hR.fld.2.1
                  simp only at d2'
                  have HU := Lib.hid ((HW4.out.below HBE.out).trans hu)
                  have H5 := Lib.hid (fail_any B rb bv sv bs _ 1 tg _ hu.rp)
                  clear hR hu c5
                  go_wp2_with fail
                  refine (H5.out).mono ?_
                  rintro r w5 ⟨rfl, h5⟩
                  have hE : Er B w rb bv sv bs 1 tg w5 := .fail (HU.out.trans h5) HS.out (by omega)
                  clear h5 d2' f2 H5
                  obtain ⟨c5e, q1, q2⟩ := hE.why
                  have H9 := Lib.hid fun v => made_er 3 v ⟨#[]⟩ 1 hE
                  clear hE
                  go_wp2_with fail
                  refine (H9.out _).mono ?_
                  rintro r w9 ⟨rfl, hE⟩
                  have HE := Lib.hid hE
                  clear hE
                  go_wp2_with fail
                  go_end0
                  exact ResP.badI HFB.out ⟨rfl, HE.out⟩
              | false =>
                cases gk with
                | zero =>
                  obtain rfl : j = k := by omega
                  have d1 : decide ((i4 : Int) + 4 ≤ 4 * (j : Int)) = false := by simp; omega
                  have d2 : decide (i4 + 4 ≤ 4 * j) = false := by simp; omega
                  have hlast := HI.out.last
                  by_cases hbad : n < 1 ∨ 281474976710656 < n
                  · have HFB : Hid (X = .bad 1 tg) := Lib.hid (by rw [HF.out, hlast, if_pos hbad]; rfl)
                    by_cases hlow : n < 1
                    · have t1 : decide (n < 1) = true := by simp; omega
                      clear hbad hlow hlast
                      have hR := HR4.out.below HBE.out
                      obtain ⟨f2, hu⟩ := hR.setTag tg
                      have d2' := hR.fld.2.1
                      simp only at d2'
                      have HU := Lib.hid ((HW4.out.below HBE.out).trans hu)
                      have H5 := Lib.hid (fail_any B rb bv sv bs _ 1 tg _ hu.rp)
                      clear hR hu c5
                      go_wp2_with fail
                      refine (H5.out).mono ?_
                      rintro r w5 ⟨rfl, h5⟩
                      have hE : Er B w rb bv sv bs 1 tg w5 := .fail (HU.out.trans h5) HS.out (by omega)
                      clear h5 d2' f2 H5
                      obtain ⟨c5e, q1, q2⟩ := hE.why
                      have H9 := Lib.hid fun v => made_er 3 v ⟨#[]⟩ 1 hE
                      clear hE
                      go_wp2_with fail
                      refine (H9.out _).mono ?_
                      rintro r w9 ⟨rfl, hE⟩
                      have HE := Lib.hid hE
                      clear hE
                      go_wp2_with fail
                      go_end0
                      exact ResP.badI HFB.out ⟨rfl, HE.out⟩
                    · have t1 : decide (n < 1) = false := by simp; omega
                      have t2 : decide (281474976710656 < n) = true := by simp; omega
                      clear hbad hlow hlast
                      have hR := HR4.out.below HBE.out
                      obtain ⟨f2, hu⟩ := hR.setTag tg
                      have d2' := hR.fld.2.1
                      simp only at d2'
                      have HU := Lib.hid ((HW4.out.below HBE.out).trans hu)
                      have H5 := Lib.hid (fail_any B rb bv sv bs _ 1 tg _ hu.rp)
                      clear hR hu c5
                      go_wp2_with fail
                      refine (H5.out).mono ?_
                      rintro r w5 ⟨rfl, h5⟩
                      have hE : Er B w rb bv sv bs 1 tg w5 := .fail (HU.out.trans h5) HS.out (by omega)
                      clear h5 d2' f2 H5
                      obtain ⟨c5e, q1, q2⟩ := hE.why
                      have H9 := Lib.hid fun v => made_er 3 v ⟨#[]⟩ 1 hE
                      clear hE
                      go_wp2_with fail
                      refine (H9.out _).mono ?_
                      rintro r w9 ⟨rfl, hE⟩
                      have HE := Lib.hid hE
                      clear hE
                      go_wp2_with fail
                      go_end0
                      exact ResP.badI HFB.out ⟨rfl, HE.out⟩
                  · have HFB : Hid (X = madeD s0 (p + 4 + 4 * j) tg ⟨3, n, ⟨#[]⟩⟩) := Lib.hid (by
                      rw [HF.out, hlast, if_neg hbad]
                      simp only [Res.bind]
                      rw [show ((n.toNat : Nat) : Int) = n by omega])
                    have t1 : decide (n < 1) = false := by simp; omega
                    have t2 : decide (281474976710656 < n) = false := by simp; omega
                    clear hbad hlast
                    have hR := HR4.out.below hbe
                    obtain ⟨f2, hu⟩ := hR.setTag tg
                    have d2 := hR.fld.2.1
                    simp only at d2
                    have HU := Lib.hid ((HW4.out.below hbe).trans hu)
                    have H5 := Lib.hid (made_res B rb bv sv bs _ 3 n ⟨#[]⟩ _ hu.rp HS.out HC.out.1 HC.out.2 s0 H01.out.1 H01.out.2)
                    clear hR hu hbe c5
                    go_wp2_with fail
                    refine (H5.out).mono ?_
                    intro r w5 h5
                    obtain ⟨rfl, h5⟩ := ResP.both h5
                    simp only [true_and] at h5
                    rw [← HFB.out] at h5
                    have HH5 := Lib.hid (ResP.behind HU.out h5)
                    clear h5 d2
                    go_wp2_with fail
                    go_end0
                    exact HH5.out.and rfl
                | succ g' =>
                  have d1 : decide ((i4 : Int) + 4 ≤ 4 * (k : Int)) = true := by simp; omega
                  have d2 : decide (i4 + 4 ≤ 4 * k) = true := by simp; omega
                  have hcne : cap ≠ i4 := by omega
                  have hrdj := (HRD.out.step (hbe.mono (HR4.out.Ble))).part i4 (4 * k - i4) (by omega) rfl
                  rw [if_neg hcne] at hrdj
                  have H6 := Lib.hid (long_any B _ (4 * k - i4) _ (rest_len (by rw [HLL.out]; omega)) (by omega) (by omega) wr hrdj)
                  have hjk : j < k := by omega
                  have hxl := refW_lt l j (by rw [HLL.out]; omega)
                  have hxe : beN ((rest l i4 (4 * k - i4)).take 4) = refW l j := by
                    unfold refW rest
                    rw [List.take_take, ← hi4, Nat.min_eq_left (by omega)]
                  rw [hxe] at H6
                  obtain ⟨x, hx⟩ : ∃ x, refW l j = x := ⟨_, rfl⟩
                  rw [hx] at H6 hxl
                  clear hxe hrdj
                  have HGK := Lib.hid hjg
                  by_cases hj0 : j = 0
                  · subst hj0
                    simp at hi4
                    subst hi4
                    have HN : Hid (RefI l k (0 + 1) false (x : Int)) := Lib.hid (by rw [← hx]; exact HI.out.first)
                    clear hbe hx hjg
                    go_wp2_with fail
                    refine (H6.out).mono ?_
                    rintro r w6 ⟨rfl, h6⟩
                    have HB6 := Lib.hid (HBE.out.trans (h6.mono HBE.out.size))
                    clear h6
                    go_wp2_with fail
                    go_roundg g'
                    case measure => omega
                    case rel => exact ⟨0 + 1, _, _, rfl, rfl, by first | rfl | (congr 1; omega), by have := HGK.out; omega, HB6.out, HN⟩
                  · by_cases hj1 : j = 1
                    · subst hj1
                      simp at hi4
                      subst hi4
                      obtain ⟨m, hm⟩ : ∃ m, bits .or .i64 n (wrap64 ((x : Int) * 4294967296)) = m := ⟨_, rfl⟩
                      obtain ⟨b, hb⟩ : ∃ b, decide (65536 < (x : Int)) = b := ⟨_, rfl⟩
                      have hn0 : 0 ≤ n ∧ n < 4294967296 := by
                        obtain ⟨_, _, h3, _, _⟩ := HI.out.2 rfl
                        have h4 := refW_lt l 0 (by rw [HLL.out]; omega)
                        have h5 : refX l 1 = 0 := if_pos (by omega)
                        rw [if_neg (by omega), h5] at h3
                        omega
                      have HN : Hid (RefI l k (1 + 1) b m) := Lib.hid (by
                        have := RefI.second HI.out hjk (m := m) (fun h => by rw [← hm, hx, or_low n x hn0.1 hn0.2 (by omega) (by omega)])
                        rw [hx] at this
                        rw [← hb, show decide (65536 < (x : Int)) = decide (65536 < x) by congr 1; simp; omega]
                        exact this)
                      clear hbe hx hjg hn0 hj0
                      go_wp2_with fail
                      refine (H6.out).mono ?_
                      rintro r w6 ⟨rfl, h6⟩
                      have HB6 := Lib.hid (HBE.out.trans (h6.mono HBE.out.size))
                      clear h6
                      go_wp2_with fail
                      go_roundg g'
                      case measure => omega
                      case rel => exact ⟨1 + 1, _, _, rfl, rfl, by first | rfl | (congr 1; omega), by have := HGK.out; omega, HB6.out, HN⟩
                    · obtain ⟨b, hb⟩ : ∃ b, ((x : Int) != 0) = b := ⟨_, rfl⟩
                      have HN : Hid (RefI l k (j + 1) b n) := Lib.hid (by
                        have := RefI.more HI.out (by omega) hjk
                        rw [hx] at this
                        rw [← hb, show ((x : Int) != 0) = decide (x ≠ 0) by cases x <;> simp <;> omega]
                        exact this)
                      have e0 : ((i4 : Int) == 0) = false := by simp; omega
                      have e4 : ((i4 : Int) == 4) = false := by simp; omega
                      have e0' : (i4 == 0) = false := by simp; omega
                      have e4' : (i4 == 4) = false := by simp; omega
                      have HI4 := Lib.hid hi4
                      have hil : ¬ (4 * (k : Int) < (i4 : Int)) := by omega
                      clear hbe hx hjg hj0 hj1 hi4
                      go_wp2_with fail
                      refine (H6.out).mono ?_
                      rintro r w6 ⟨rfl, h6⟩
                      have HB6 := Lib.hid (HBE.out.trans (h6.mono HBE.out.size))
                      clear h6
                      go_wp2_with fail
                      go_roundg g'
                      case measure => omega
                      case rel => exact ⟨j + 1, _, _, rfl, rfl, by have := HI4.out; first | rfl | (congr 1; omega), by have := HGK.out; omega, HB6.out, HN⟩
end Go.Proofs.YtkhjdcnlpablkaaDoor
