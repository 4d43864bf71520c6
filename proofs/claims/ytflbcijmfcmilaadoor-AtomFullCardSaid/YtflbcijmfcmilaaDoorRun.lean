/- The runs of a bare atom's bytes and Bare, both sides. -/
import Derived.Test.YtflbcijmfcmilaaDoorRes
namespace Go.Proofs.YtflbcijmfcmilaaDoor
open Go.RowKit

theorem small2_any (c : Int) (w : World) : Calls Tryd.prog 50 #[.int .u8 c] w fun e w' => e = .returned (.bool (smallB c)) ∧ w' = w := by
  by_cases h1 : 97 ≤ c
  · by_cases h2 : c ≤ 122
    · go_enter Tryd.func50, Tryd.ntmps50
      go_wp2
      go_ret
      exact ⟨by simp [smallB, *], rfl⟩
    · go_enter Tryd.func50, Tryd.ntmps50
      go_wp2
      go_ret
      exact ⟨by have : ¬ c ≤ 122 := by omega
                simp [smallB, *], rfl⟩
  · go_enter Tryd.func50, Tryd.ntmps50
    go_wp2
    go_ret
    exact ⟨by have : ¬ 97 ≤ c := by omega
              simp [smallB, *], rfl⟩

set_option maxHeartbeats 1600000 in
set_option maxRecDepth 100000 in
theorem follows_any (c : Int) (w : World) : Calls Tryd.prog 51 #[.int .u8 c] w fun e w' => e = .returned (.bool (insideB c)) ∧ w' = w := by
  obtain ⟨b, hb⟩ : ∃ b, smallB c = b := ⟨_, rfl⟩
  have HB := Lib.hid hb
  cases b with
  | true =>
    clear hb
    go_enter Tryd.func51, Tryd.ntmps51
    go_wp2_with fail
    refine (small2_any c w).mono ?_
    rintro e w' ⟨rfl, rfl⟩
    rw [HB.out]
    go_wp2
    go_ret
    exact ⟨by simp [insideB, HB.out], rfl⟩
  | false =>
    clear hb
    by_cases h5 : c = 95
    · subst h5
      go_enter Tryd.func51, Tryd.ntmps51
      go_wp2_with fail
      refine (small2_any _ _).mono ?_
      rintro e w' ⟨rfl, rfl⟩
      rw [HB.out]
      go_wp2
      go_ret
      exact ⟨rfl, rfl⟩
    by_cases h6 : c = 64
    · subst h6
      go_enter Tryd.func51, Tryd.ntmps51
      go_wp2_with fail
      refine (small2_any _ _).mono ?_
      rintro e w' ⟨rfl, rfl⟩
      rw [HB.out]
      go_wp2
      go_ret
      exact ⟨rfl, rfl⟩
    have e5 : (c == 95) = false := by simpa using h5
    have e6 : (c == 64) = false := by simpa using h6
    have H5 := Lib.hid h5
    have H6 := Lib.hid h6
    clear h5 h6
    by_cases h1 : 65 ≤ c <;> by_cases h2 : c ≤ 90 <;> by_cases h3 : 48 ≤ c <;> by_cases h4 : c ≤ 57 <;> (try omega)
    all_goals
      go_enter Tryd.func51, Tryd.ntmps51
      go_wp2_with fail
      refine (small2_any _ _).mono ?_
      rintro e w' ⟨rfl, rfl⟩
      rw [HB.out]
      go_wp2
      go_ret
      refine ⟨?_, rfl⟩
      have h5 := H5.out
      have h6 := H6.out
      first
        | (show Ending.returned (.bool true) = _; rw [show insideB c = true by simp [insideB, HB.out] <;> omega])
        | (show Ending.returned (.bool false) = _; rw [show insideB c = false by simp [insideB, HB.out] <;> omega])
        | (simp [insideB, HB.out, *] <;> omega)

theorem small_inside {c : Int} (h : smallB c = true) : insideB c = true := by simp [insideB, h]

set_option maxHeartbeats 1600000 in
set_option maxRecDepth 100000 in
theorem rrun_any (s : ByteArray) (p : Nat) (w : World) (hp : p ≤ s.size) (hs : s.size ≤ maxLen) : Calls Tryd.prog 24 #[.string s, .int .i64 p] w fun e w' => e = .returned (.int .i64 ((p + runTo (s.data.toList.drop p) : Nat) : Int)) ∧ w' = w := by
  unfold maxLen at hs
  go_enter Tryd.func24, Tryd.ntmps24
  go_wp2_with fail
  go_loopg [5] s.size (fun g s5 wr => ∃ m : Nat, m + g = s.size + p ∧ p ≤ m ∧ m ≤ s.size ∧ s5 = .int .i64 m ∧ wr = w ∧ Hid (p < m → runTo (s.data.toList.drop p) = (m - p) + ((s.data.toList.drop m).takeWhile insideU).length))
  case atStart => exact ⟨p, by omega, by omega, by omega, rfl, rfl, Lib.hid (by omega)⟩
  case round =>
    obtain ⟨m, hm, hpm, hms, rfl, rfl, hI⟩ := hrel
    by_cases hlt : m < s.size
    · have hd := drop_at hlt
      obtain ⟨b, hb⟩ : ∃ b, smallB ((s[m]'hlt).toNat : Int) = b := ⟨_, rfl⟩
      obtain ⟨b2, hb2⟩ : ∃ b, insideB ((s[m]'hlt).toNat : Int) = b := ⟨_, rfl⟩
      have HB := Lib.hid hb
      have HB2 := Lib.hid hb2
      have HD := Lib.hid hd
      clear hb hb2 hd
      cases gk with
      | zero => omega
      | succ g =>
      have HI1 : Hid ((m = p → b = true) → b2 = true → p < m + 1 → runTo (s.data.toList.drop p) = (m + 1 - p) + ((s.data.toList.drop (m + 1)).takeWhile insideU).length) := by
        refine Lib.hid fun hb h2 _ => ?_
        have ht : (s.data.toList.drop m).takeWhile insideU = s[m] :: (s.data.toList.drop (m + 1)).takeWhile insideU := by
          rw [HD.out, List.takeWhile_cons, show insideU s[m] = true from HB2.out.trans h2]
          rfl
        by_cases hmp : m = p
        · subst hmp
          have : runTo (s.data.toList.drop m) = ((s.data.toList.drop m).takeWhile insideU).length := by
            rw [HD.out]
            simp only [runTo]
            rw [HB.out, hb rfl]
            rfl
          rw [this, ht, List.length_cons]
          omega
        · rw [hI.out (by omega), ht, List.length_cons]
          omega
      have HE : Hid ((m = p ∧ b = false) ∨ (p < m ∧ b2 = false) → p + runTo (s.data.toList.drop p) = m) := by
        refine Lib.hid ?_
        rintro (⟨rfl, hb⟩ | ⟨hlt, hb⟩)
        · rw [HD.out]
          simp only [runTo]
          rw [HB.out, hb]
          rfl
        · have := hI.out hlt
          rw [HD.out, List.takeWhile_cons, show insideU s[m] = false from HB2.out.trans hb] at this
          simp at this
          rw [HD.out] at *
          omega
      have HS : Hid (b = true → b2 = true) := Lib.hid fun h => HB2.out.symm.trans (small_inside (HB.out.trans h))
      clear hI HD
      go_wp2_with fail
      refine (small2_any _ _).mono ?_
      rintro e w' ⟨rfl, rfl⟩
      rw [HB.out]
      cases b with
      | true =>
        have HI := Lib.hid (HI1.out (fun _ => rfl) (HS.out rfl))
        clear HI1 HE HS HB HB2
        go_wp2_with fail
        go_roundg g
        case measure => omega
        case rel => exact ⟨m + 1, by omega, by omega, by omega, by go_num, rfl, HI⟩
      | false =>
        by_cases hmp : m = p
        · have HF := Lib.hid (HE.out (.inl ⟨hmp, rfl⟩))
          have hpm2 : ¬ (p : Int) < (m : Int) := by omega
          have hpm3 : decide ((p : Int) < (m : Int)) = false := by simp; omega
          clear HI1 HE HS HB HB2
          obtain rfl : m = p := hmp
          go_wp2_with fail
          go_ret
          exact ⟨by rw [HF.out]; rfl, rfl⟩
        · have hpm2 : (p : Int) < (m : Int) := by omega
          go_wp2_with fail
          refine (follows_any _ _).mono ?_
          rintro e w' ⟨rfl, rfl⟩
          rw [HB2.out]
          cases b2 with
          | true =>
            have HI := Lib.hid (HI1.out (fun h => absurd h hmp) rfl)
            clear HI1 HE HS HB HB2
            go_wp2_with fail
            go_roundg g
            case measure => omega
            case rel => exact ⟨m + 1, by omega, by omega, by omega, by go_num, rfl, HI⟩
          | false =>
            have HF := Lib.hid (HE.out (.inr ⟨by omega, rfl⟩))
            clear HI1 HE HS HB HB2
            go_wp2_with fail
            go_ret
            exact ⟨by rw [HF.out]; rfl, rfl⟩
    · have HF : Hid (p + runTo (s.data.toList.drop p) = m) := by
        refine Lib.hid ?_
        by_cases hmp : p < m
        · have := hI.out hmp
          rw [drop_end (s := s) (m := m) (by omega)] at this
          simp at this
          omega
        · rw [drop_end (s := s) (m := p) (by omega)]
          simp [runTo]
          omega
      clear hI
      go_wp2_with fail
      go_ret
      exact ⟨by rw [HF.out]; rfl, rfl⟩

/-- Is it written bare? -/
def bareL (l : List UInt8) : Bool := decide (l ≠ []) && decide (l.length ≤ 255) && decide (runTo l = l.length) && !resL l

theorem nil_iff (s : ByteArray) : s.data.toList = [] ↔ s.size = 0 := by
  rw [← List.length_eq_zero_iff]; simp

set_option maxHeartbeats 1600000 in
set_option maxRecDepth 100000 in
theorem bare_any (s : ByteArray) (w : World) (hs : s.size ≤ maxLen) : Calls Tryd.prog 15 #[.string s] w fun e w' => e = .returned (.bool (bareL s.data.toList)) ∧ w' = w := by
  have hl : s.data.toList.length = s.size := by simp
  have hrn := run_any s 0 w (by omega) hs
  rw [Nat.zero_add, List.drop_zero] at hrn
  have HR := Lib.hid hrn
  have hres := res45_any s w
  have HRES := Lib.hid hres
  clear hrn hres
  by_cases h0 : s.size = 0
  · have e1 : s.toList = [] := by rw [ByteArray.toList_eq]; exact (nil_iff s).2 h0
    have HF : Hid (bareL s.data.toList = false) := Lib.hid (by simp [bareL, (nil_iff s).2 h0])
    clear hl
    go_enter Tryd.func15, Tryd.ntmps15
    go_wp2_with fail
    go_ret
    exact ⟨by rw [HF.out]; rfl, rfl⟩
  · have e1 : (s.toList == []) = false := by rw [ByteArray.toList_eq]; simp; intro h; exact h0 ((nil_iff s).1 (by simpa using h))
    have e2 : s.toList.isEmpty = false := by rw [ByteArray.toList_eq]; simp; intro h; exact h0 ((nil_iff s).1 (by simpa using h))
    have hne : s.data.toList ≠ [] := fun h => h0 ((nil_iff s).1 h)
    by_cases h1 : s.size ≤ 255
    · obtain ⟨m, hm⟩ : ∃ m, runTo s.data.toList = m := ⟨_, rfl⟩
      by_cases h2 : m = s.size
      · obtain ⟨b, hb⟩ : ∃ b, resL s.data.toList = b := ⟨_, rfl⟩
        have HF : Hid (bareL s.data.toList = !b) := Lib.hid (by
          unfold bareL
          rw [hb, decide_eq_true hne, decide_eq_true (by omega : s.data.toList.length ≤ 255), decide_eq_true (by omega : runTo s.data.toList = s.data.toList.length)]
          rfl)
        have HB := Lib.hid hb
        have HM := Lib.hid (hm.trans h2)
        clear hm hb hl hne
        go_enter Tryd.func15, Tryd.ntmps15
        go_wp2_with fail
        refine (HR.out).mono ?_
        rintro e w' ⟨rfl, rfl⟩
        rw [HM.out]
        go_wp2_with fail
        refine (HRES.out).mono ?_
        rintro e w' ⟨rfl, rfl⟩
        rw [HB.out]
        cases b with
        | true =>
          go_wp2_with fail
          go_ret
          exact ⟨by rw [HF.out]; rfl, rfl⟩
        | false =>
          go_wp2_with fail
          go_ret
          exact ⟨by rw [HF.out]; rfl, rfl⟩
      · have HF : Hid (bareL s.data.toList = false) := Lib.hid (by simp [bareL, hm]; intro _ _ h; exact absurd h h2)
        have HM := Lib.hid hm
        have e3 : ((m : Int) == (s.size : Int)) = false := by simp; omega
        clear hm hl h2 hne
        go_enter Tryd.func15, Tryd.ntmps15
        go_wp2_with fail
        refine (HR.out).mono ?_
        rintro e w' ⟨rfl, rfl⟩
        rw [HM.out]
        go_wp2_with fail
        go_ret
        exact ⟨by rw [HF.out]; rfl, rfl⟩
    · have HF : Hid (bareL s.data.toList = false) := Lib.hid (by simp [bareL, h1])
      clear hl hne
      go_enter Tryd.func15, Tryd.ntmps15
      go_wp2_with fail
      go_ret
      exact ⟨by rw [HF.out]; rfl, rfl⟩

set_option maxHeartbeats 1600000 in
set_option maxRecDepth 100000 in
theorem rbare_any (s : ByteArray) (w : World) (hs : s.size ≤ maxLen) : Calls Tryd.prog 16 #[.string s] w fun e w' => e = .returned (.bool (bareL s.data.toList)) ∧ w' = w := by
  have hl : s.data.toList.length = s.size := by simp
  have hrn := rrun_any s 0 w (by omega) hs
  rw [Nat.zero_add, List.drop_zero] at hrn
  have HR := Lib.hid hrn
  have hres := res46_any s w
  have HRES := Lib.hid hres
  clear hrn hres
  by_cases h0 : s.size = 0
  · have HF : Hid (bareL s.data.toList = false) := Lib.hid (by simp [bareL, (nil_iff s).2 h0])
    clear hl
    go_enter Tryd.func16, Tryd.ntmps16
    go_wp2_with fail
    go_ret
    exact ⟨by rw [HF.out]; rfl, rfl⟩
  · have hne : s.data.toList ≠ [] := fun h => h0 ((nil_iff s).1 h)
    by_cases h1 : s.size ≤ 255
    · obtain ⟨m, hm⟩ : ∃ m, runTo s.data.toList = m := ⟨_, rfl⟩
      have h0' : 0 < s.size := by omega
      by_cases h2 : m = s.size
      · obtain ⟨b, hb⟩ : ∃ b, resL s.data.toList = b := ⟨_, rfl⟩
        have HF : Hid (bareL s.data.toList = !b) := Lib.hid (by
          unfold bareL
          rw [hb, decide_eq_true hne, decide_eq_true (by omega : s.data.toList.length ≤ 255), decide_eq_true (by omega : runTo s.data.toList = s.data.toList.length)]
          rfl)
        have HB := Lib.hid hb
        have HM := Lib.hid (hm.trans h2)
        clear hm hb hl hne
        go_enter Tryd.func16, Tryd.ntmps16
        go_wp2_with fail
        refine (HR.out).mono ?_
        rintro e w' ⟨rfl, rfl⟩
        rw [HM.out]
        go_wp2_with fail
        refine (HRES.out).mono ?_
        rintro e w' ⟨rfl, rfl⟩
        rw [HB.out]
        cases b with
        | true =>
          go_wp2_with fail
          go_ret
          exact ⟨by rw [HF.out]; rfl, rfl⟩
        | false =>
          go_wp2_with fail
          go_ret
          exact ⟨by rw [HF.out]; rfl, rfl⟩
      · have HF : Hid (bareL s.data.toList = false) := Lib.hid (by simp [bareL, hm]; intro _ _ h; exact absurd h h2)
        have HM := Lib.hid hm
        have e3 : ((m : Int) == (s.size : Int)) = false := by simp; omega
        clear hm hl h2 hne
        go_enter Tryd.func16, Tryd.ntmps16
        go_wp2_with fail
        refine (HR.out).mono ?_
        rintro e w' ⟨rfl, rfl⟩
        rw [HM.out]
        go_wp2_with fail
        go_ret
        exact ⟨by rw [HF.out]; rfl, rfl⟩
    · have HF : Hid (bareL s.data.toList = false) := Lib.hid (by simp [bareL, h1])
      have h0' : 0 < s.size := by omega
      clear hl hne
      go_enter Tryd.func16, Tryd.ntmps16
      go_wp2_with fail
      go_ret
      exact ⟨by rw [HF.out]; rfl, rfl⟩
end Go.Proofs.YtflbcijmfcmilaaDoor
