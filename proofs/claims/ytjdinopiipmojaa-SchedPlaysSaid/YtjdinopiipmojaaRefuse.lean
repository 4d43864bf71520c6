/- Add's refusals; Add as one contract. -/
import Derived.Test.YtjdinopiipmojaaKnown
namespace Go.Proofs.Ytjdinopiipmojaa
open Go.RowKit

theorem Add_arg (p bm : Nat) (vs : Int → Value) (c : Int) (L : Int → List Int) (pid pr : Int) (w : World) (_ : Qb w p bm vs c L) (h : pid < 1 ∨ 1099511627776 < pid ∨ pr < 1 ∨ 4 < pr) :
    Calls Try.prog 9 #[.pointer (some ⟨p, 0, none⟩), .int .i64 pid, .int .i64 pr] w fun e w' => e = .returned (.int .i64 1) ∧ w' = w := by
  by_cases h1 : pid < 1
  · go_enter Try.func9, Try.ntmps9
    go_wp2
    go_ret
    exact ⟨rfl, rfl⟩
  by_cases h2 : 1099511627776 < pid
  · go_enter Try.func9, Try.ntmps9
    go_wp2
    go_ret
    exact ⟨rfl, rfl⟩
  by_cases h3 : pr < 1
  · go_enter Try.func9, Try.ntmps9
    go_wp2
    go_ret
    exact ⟨rfl, rfl⟩
  · have h4 : 4 < pr := by omega
    go_enter Try.func9, Try.ntmps9
    go_wp2
    go_ret
    exact ⟨rfl, rfl⟩

theorem Add_twice (p bm : Nat) (vs : Int → Value) (c : Int) (L : Int → List Int) (pid pr : Int) (w : World) (hq : Qb w p bm vs c L) (h1 : 1 ≤ pid) (h2 : pid ≤ 1099511627776) (h3 : 1 ≤ pr) (h4 : pr ≤ 4) (h : ∃ j, 1 ≤ j ∧ j ≤ 4 ∧ pid ∈ L j) :
    Calls Try.prog 9 #[.pointer (some ⟨p, 0, none⟩), .int .i64 pid, .int .i64 pr] w fun e w' => e = .returned (.int .i64 6) ∧ w' = w := by
  have H := Lib.hid h
  clear h
  go_enter Try.func9, Try.ntmps9
  go_wp2_with fail
  refine (Has_yes p bm vs c L pid _ hq H.out).mono ?_
  rintro e w1 ⟨rfl, rfl⟩
  go_wp2_with fail
  go_ret
  exact ⟨rfl, rfl⟩

theorem Add_full (p bm : Nat) (vs : Int → Value) (c : Int) (L : Int → List Int) (pid pr : Int) (w : World) (hq : Qb w p bm vs c L) (h1 : 1 ≤ pid) (h2 : pid ≤ 1099511627776) (h3 : 1 ≤ pr) (h4 : pr ≤ 4) (h : ∀ j, 1 ≤ j → j ≤ 4 → pid ∉ L j) (hf : 64 ≤ sumL L 4) (hs : sumL L 4 ≤ 1000) :
    Calls Try.prog 9 #[.pointer (some ⟨p, 0, none⟩), .int .i64 pid, .int .i64 pr] w fun e w' => e = .returned (.int .i64 8) ∧ w' = w := by
  have H := Lib.hid h
  clear h
  go_enter Try.func9, Try.ntmps9
  go_wp2_with fail
  refine (Has_no p bm vs c L pid _ hq H.out).mono ?_
  rintro e w1 ⟨rfl, rfl⟩
  go_wp2_with fail
  refine (Len_any p bm vs c L _ hq (by omega)).mono ?_
  rintro e w1 ⟨rfl, rfl⟩
  go_wp2_with fail
  go_ret
  exact ⟨rfl, rfl⟩

/-- What Add answers. -/
def addSays (L : Int → List Int) (pid pr : Int) : Int × (Int → List Int) :=
  if pid < 1 ∨ 1099511627776 < pid ∨ pr < 1 ∨ 4 < pr then (1, L)
  else if ∃ j : Fin 4, pid ∈ L ((j.val : Int) + 1) then (6, L)
  else if 64 ≤ sumL L 4 then (8, L)
  else (0, setL L pr (L pr ++ [pid]))

theorem fin4 {L : Int → List Int} {pid : Int} : (∃ j : Fin 4, pid ∈ L ((j.val : Int) + 1)) ↔ ∃ j : Int, 1 ≤ j ∧ j ≤ 4 ∧ pid ∈ L j := by
  constructor
  · rintro ⟨j, h⟩
    have := j.isLt
    exact ⟨_, by omega, by omega, h⟩
  · rintro ⟨j, h1, h4, h⟩
    exact ⟨⟨(j - 1).toNat, by omega⟩, by
      show pid ∈ L ((((j - 1).toNat : Nat) : Int) + 1)
      rwa [show (((j - 1).toNat : Nat) : Int) + 1 = j by omega]⟩

theorem Add_any (p bm : Nat) (vs : Int → Value) (c : Int) (L : Int → List Int) (pid pr : Int) (w : World) (hq : Qb w p bm vs c L) (hs : sumL L 4 ≤ 64) :
    Calls Try.prog 9 #[.pointer (some ⟨p, 0, none⟩), .int .i64 pid, .int .i64 pr] w fun e w' => e = .returned (.int .i64 (addSays L pid pr).1) ∧ QPost p bm vs c (addSays L pid pr).2 w w' := by
  have hsame : QPost p bm vs c L w w := hq.same (Below.refl _ _)
  unfold addSays
  by_cases h1 : pid < 1 ∨ 1099511627776 < pid ∨ pr < 1 ∨ 4 < pr
  · rw [if_pos h1]
    exact (Add_arg p bm vs c L pid pr w hq h1).mono fun e w' ⟨h, h'⟩ => ⟨h, h' ▸ hsame⟩
  rw [if_neg h1]
  by_cases h2 : ∃ j : Fin 4, pid ∈ L ((j.val : Int) + 1)
  · rw [if_pos h2]
    exact (Add_twice p bm vs c L pid pr w hq (by omega) (by omega) (by omega) (by omega) (fin4.1 h2)).mono fun e w' ⟨h, h'⟩ => ⟨h, h' ▸ hsame⟩
  rw [if_neg h2]
  have hno : ∀ j, 1 ≤ j → j ≤ 4 → pid ∉ L j := fun j j1 j4 hj => h2 (fin4.2 ⟨j, j1, j4, hj⟩)
  by_cases h3 : 64 ≤ sumL L 4
  · rw [if_pos h3]
    exact (Add_full p bm vs c L pid pr w hq (by omega) (by omega) (by omega) (by omega) hno h3 (by omega)).mono fun e w' ⟨h, h'⟩ => ⟨h, h' ▸ hsame⟩
  · rw [if_neg h3]
    exact Add_ok p bm vs c L pid pr w hq (by omega) (by omega) (by omega) (by omega) (by omega) hno
end Go.Proofs.Ytjdinopiipmojaa
