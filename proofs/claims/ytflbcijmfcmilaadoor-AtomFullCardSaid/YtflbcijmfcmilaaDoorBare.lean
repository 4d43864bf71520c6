/- run, Bare, reserved, Right of short texts; Unquote of a bare one. -/
import Derived.Test.YtflbcijmfcmilaaDoorAsc
namespace Go.Proofs.YtflbcijmfcmilaaDoor
open Go.RowKit

def smallB (c : Int) : Bool := decide (97 ≤ c ∧ c ≤ 122)
def insideB (c : Int) : Bool := smallB c || decide (65 ≤ c ∧ c ≤ 90) || decide (48 ≤ c ∧ c ≤ 57) || decide (c = 95) || decide (c = 64)

theorem small_any (c : Int) (w : World) : Calls Tryd.prog 58 #[.int .u8 c] w fun e w' => e = .returned (.bool (smallB c)) ∧ w' = w := by
  by_cases h1 : 97 ≤ c
  · by_cases h2 : c ≤ 122
    · go_enter Tryd.func58, Tryd.ntmps58
      go_wp2
      go_ret
      exact ⟨by simp [smallB, *], rfl⟩
    · go_enter Tryd.func58, Tryd.ntmps58
      go_wp2
      go_ret
      exact ⟨by have : ¬ c ≤ 122 := by omega
                simp [smallB, *], rfl⟩
  · go_enter Tryd.func58, Tryd.ntmps58
    go_wp2
    go_ret
    exact ⟨by have : ¬ 97 ≤ c := by omega
              simp [smallB, *], rfl⟩

set_option maxHeartbeats 1600000 in
set_option maxRecDepth 100000 in
theorem inside_any (c : Int) (w : World) : Calls Tryd.prog 59 #[.int .u8 c] w fun e w' => e = .returned (.bool (insideB c)) ∧ w' = w := by
  obtain ⟨b, hb⟩ : ∃ b, smallB c = b := ⟨_, rfl⟩
  have HB := Lib.hid hb
  cases b with
  | true =>
    clear hb
    go_enter Tryd.func59, Tryd.ntmps59
    go_wp2_with fail
    refine (small_any c w).mono ?_
    rintro e w' ⟨rfl, rfl⟩
    rw [HB.out]
    go_wp2
    go_ret
    exact ⟨by simp [insideB, HB.out], rfl⟩
  | false =>
    clear hb
    by_cases h5 : c = 95
    · subst h5
      go_enter Tryd.func59, Tryd.ntmps59
      go_wp2_with fail
      refine (small_any _ _).mono ?_
      rintro e w' ⟨rfl, rfl⟩
      rw [HB.out]
      go_wp2
      go_ret
      exact ⟨rfl, rfl⟩
    by_cases h6 : c = 64
    · subst h6
      go_enter Tryd.func59, Tryd.ntmps59
      go_wp2_with fail
      refine (small_any _ _).mono ?_
      rintro e w' ⟨rfl, rfl⟩
      rw [HB.out]
      go_wp2
      go_ret
      exact ⟨rfl, rfl⟩
    have e5 : (c == 95) = false := by simpa using h5
    have e6 : (c == 64) = false := by simpa using h6
    have H5 := Lib.hid h5
    have H6 := Lib.hid h6
    clear h5 h6
    by_cases h1 : 65 ≤ c <;> by_cases h2 : c ≤ 90 <;> by_cases h3 : 48 ≤ c <;> by_cases h4 : c ≤ 57 <;> (try omega)
    all_goals
      go_enter Tryd.func59, Tryd.ntmps59
      go_wp2_with fail
      refine (small_any _ _).mono ?_
      rintro e w' ⟨rfl, rfl⟩
      rw [HB.out]
      go_wp2
      go_ret
      refine ⟨?_, rfl⟩
      have h5 := H5.out
      have h6 := H6.out
      first
        | (show Ending.returned (.bool true) = _; rw [show insideB c = true by simp [insideB, HB.out] <;> omega])
        | (show Ending.returned (.bool false) = _; rw [show insideB c = false by simp [insideB, HB.out] <;> omega])
        | (simp [insideB, HB.out, *] <;> omega)

def insideU (y : UInt8) : Bool := insideB (y.toNat : Int)
/-- How long a run of a bare atom's bytes is. -/
def runTo (l : List UInt8) : Nat := match l with
  | [] => 0
  | x :: _ => if smallB (x.toNat : Int) then (l.takeWhile insideU).length else 0

theorem drop_at {s : ByteArray} {m : Nat} (h : m < s.size) : s.data.toList.drop m = s[m] :: s.data.toList.drop (m + 1) := by
  have : m < s.data.toList.length := by simpa using h
  rw [List.drop_eq_getElem_cons this]
  rfl

theorem drop_end {s : ByteArray} {m : Nat} (h : s.size ≤ m) : s.data.toList.drop m = [] := by
  have : s.data.toList.length ≤ m := by simpa using h
  exact List.drop_eq_nil_of_le this

set_option maxHeartbeats 1600000 in
set_option maxRecDepth 100000 in
theorem run_any (s : ByteArray) (p : Nat) (w : World) (hp : p ≤ s.size) (hs : s.size ≤ maxLen) : Calls Tryd.prog 44 #[.string s, .int .i64 p] w fun e w' => e = .returned (.int .i64 ((p + runTo (s.data.toList.drop p) : Nat) : Int)) ∧ w' = w := by
  unfold maxLen at hs
  by_cases h0 : p < s.size
  · have hd := drop_at h0
    obtain ⟨b, hb⟩ : ∃ b, smallB ((s[p]'h0).toNat : Int) = b := ⟨_, rfl⟩
    have HB := Lib.hid hb
    have HD := Lib.hid hd
    clear hb hd
    cases b with
    | false =>
      go_enter Tryd.func44, Tryd.ntmps44
      go_wp2_with fail
      refine (small_any _ w).mono ?_
      rintro e w' ⟨rfl, rfl⟩
      rw [HB.out]
      go_wp2_with fail
      go_ret
      exact ⟨by rw [HD.out]; simp [runTo, HB.out], rfl⟩
    | true =>
      have hd0 : decide (s.size ≤ p) = false := by simp; omega
      go_enter Tryd.func44, Tryd.ntmps44
      go_wp2_with fail
      refine (small_any _ w).mono ?_
      rintro e w' ⟨rfl, rfl⟩
      rw [HB.out]
      have HR : Hid (runTo (s.data.toList.drop p) = ((s.data.toList.drop p).takeWhile insideU).length) := by
        have := HD.out
        rw [this]
        simp only [runTo]
        rw [HB.out]
        rfl
      clear HB HD
      go_wp2_with fail
      go_loopg [1] s.size (fun g s1 wr => ∃ m : Nat, m + g = s.size + p ∧ p ≤ m ∧ m ≤ s.size ∧ s1 = .int .i64 m ∧ wr = w' ∧ Hid (((s.data.toList.drop p).takeWhile insideU).length = (m - p) + ((s.data.toList.drop m).takeWhile insideU).length))
      case atStart => exact ⟨p, by omega, by omega, by omega, rfl, rfl, Lib.hid (by simp)⟩
      case round =>
        obtain ⟨m, hm, hpm, hms, rfl, rfl, hI⟩ := hrel
        by_cases hlt : m < s.size
        · have hd := drop_at hlt
          obtain ⟨b, hb⟩ : ∃ b, insideB ((s[m]'hlt).toNat : Int) = b := ⟨_, rfl⟩
          have HB := Lib.hid hb
          have HD := Lib.hid hd
          clear hb hd
          cases gk with
          | zero => omega
          | succ g =>
          go_wp2_with fail
          refine (inside_any _ _).mono ?_
          rintro e w' ⟨rfl, rfl⟩
          rw [HB.out]
          cases b with
          | true =>
            have HI : Hid (((s.data.toList.drop p).takeWhile insideU).length = (m + 1 - p) + ((s.data.toList.drop (m + 1)).takeWhile insideU).length) := by
              have := hI.out
              rw [HD.out, List.takeWhile_cons, show insideU s[m] = true from HB.out] at this
              simp at this
              exact Lib.hid (by omega)
            clear HB HD hI
            go_wp2_with fail
            go_roundg g
            case measure => omega
            case rel => exact ⟨m + 1, by omega, by omega, by omega, by go_num, rfl, HI⟩
          | false =>
            have HI : Hid (((s.data.toList.drop p).takeWhile insideU).length = m - p) := by
              have := hI.out
              rw [HD.out, List.takeWhile_cons, show insideU s[m] = false from HB.out] at this
              simp at this
              exact Lib.hid (by omega)
            clear HB HD hI
            go_wp2_with fail
            go_ret
            exact ⟨by rw [HR.out, HI.out, show p + (m - p) = m by omega]; rfl, rfl⟩
        · have HI : Hid (((s.data.toList.drop p).takeWhile insideU).length = m - p) := by
            have := hI.out
            rw [drop_end (s := s) (m := m) (by omega)] at this
            simp at this
            exact Lib.hid (by omega)
          clear hI
          go_wp2_with fail
          go_ret
          exact ⟨by rw [HR.out, HI.out, show p + (m - p) = m by omega]; rfl, rfl⟩
  · have hd := drop_end (s := s) (m := p) (by omega)
    have HD := Lib.hid hd
    clear hd
    go_enter Tryd.func44, Tryd.ntmps44
    go_wp2_with fail
    go_ret
    exact ⟨by rw [HD.out]; rfl, rfl⟩

/-- A short text of ASCII alone is right. -/
theorem right_short (t : ByteArray) (w : World) (ht : t.size ≤ 8) (ha : Ascii t) : Calls Tryd.prog 13 #[.string t] w fun e w' => e = .returned (.int .i64 0) ∧ w' = w := by
  go_enter Tryd.func13, Tryd.ntmps13
  go_wp2_with fail
  refine (valid_short t w ht ha).mono ?_
  rintro e w' ⟨rfl, rfl⟩
  go_wp2_with fail
  go_ret
  exact ⟨rfl, rfl⟩

set_option maxRecDepth 100000 in
theorem reserved_ok (w : World) : Calls Tryd.prog 45 #[.string ⟨#[111, 107]⟩] w fun e w' => e = .returned (.bool false) ∧ w' = w := by
  go_enter Tryd.func45, Tryd.ntmps45
  go_wp2_with fail
  go_ret
  exact ⟨rfl, rfl⟩

theorem bare_ok (w : World) : Calls Tryd.prog 15 #[.string ⟨#[111, 107]⟩] w fun e w' => e = .returned (.bool true) ∧ w' = w := by
  go_enter Tryd.func15, Tryd.ntmps15
  go_wp2_with fail
  refine (run_any ⟨#[111, 107]⟩ 0 w (by decide) (by decide)).mono ?_
  rintro e w' ⟨rfl, rfl⟩
  rw [show runTo _ = 2 from by decide]
  go_wp2_with fail
  refine (reserved_ok _).mono ?_
  rintro e w' ⟨rfl, rfl⟩
  go_wp2_with fail
  go_ret
  exact ⟨rfl, rfl⟩

theorem bare_its (w : World) : Calls Tryd.prog 15 #[.string ⟨#[105, 116, 39, 115]⟩] w fun e w' => e = .returned (.bool false) ∧ w' = w := by
  go_enter Tryd.func15, Tryd.ntmps15
  go_wp2_with fail
  refine (run_any ⟨#[105, 116, 39, 115]⟩ 0 w (by decide) (by decide)).mono ?_
  rintro e w' ⟨rfl, rfl⟩
  rw [show runTo _ = 2 from by decide]
  go_wp2_with fail
  go_ret
  exact ⟨rfl, rfl⟩

theorem scan_ok (w : World) : Calls Tryd.prog 18 #[.string ⟨#[111, 107]⟩, .int .i64 0] w fun e w' => e = .returned (.tuple #[.string ⟨#[111, 107]⟩, .int .i64 2, .int .i64 0]) ∧ w' = w := by
  go_enter Tryd.func18, Tryd.ntmps18
  go_wp2_with fail
  refine (run_any ⟨#[111, 107]⟩ 0 w (by decide) (by decide)).mono ?_
  rintro e w' ⟨rfl, rfl⟩
  rw [show runTo _ = 2 from by decide]
  go_wp2_with fail
  refine (reserved_ok _).mono ?_
  rintro e w' ⟨rfl, rfl⟩
  go_wp2_with fail
  go_ret3
  exact ⟨rfl, rfl⟩

theorem unquote_ok (w : World) : Calls Tryd.prog 20 #[.string ⟨#[111, 107]⟩] w fun e w' => e = .returned (.tuple #[.string ⟨#[111, 107]⟩, .int .i64 0, .int .i64 0]) ∧ w' = w := by
  go_enter Tryd.func20, Tryd.ntmps20
  go_wp2_with fail
  refine (scan_ok w).mono ?_
  rintro e w' ⟨rfl, rfl⟩
  go_wp2_with fail
  go_ret3
  exact ⟨rfl, rfl⟩

end Go.Proofs.YtflbcijmfcmilaaDoor
