/- same: two lists of bytes. Count. -/
import Derived.Test.YtkhjdcnlpablkaaDoorSam
import Derived.Test.YtkhjdcnlpablkaaDoorRdq
namespace Go.Proofs.YtkhjdcnlpablkaaDoor
open Go.RowKit
open Go.Lib (byteCells)

theorem toList_data (x : ByteArray) : x.toList = x.data.toList := by rw [ByteArray.toList_eq]

set_option maxRecDepth 100000 in
theorem bsame_any (l m : List UInt8) (u v : Value) (w : World) (hu : Rd w 1 u l.length (byteCells l)) (hv : Rd w 1 v m.length (byteCells m)) :
    Calls Tryd.prog 18 #[u, v] w fun e w' => ∃ b : Bool, e = .returned (.bool b) ∧ (b = true ↔ l = m) ∧ Below w.heap.size w w' := by
  have c1 := run_str hu rfl
  have c2 := run_str hv rfl
  obtain ⟨x, hx⟩ : ∃ x : ByteArray, (⟨l.toArray⟩ : ByteArray) = x := ⟨_, rfl⟩
  obtain ⟨y, hy⟩ : ∃ y : ByteArray, (⟨m.toArray⟩ : ByteArray) = y := ⟨_, rfl⟩
  rw [hx] at c1
  rw [hy] at c2
  have HQ : Hid (x.toList = y.toList ↔ l = m) := Lib.hid (by
    rw [toList_data, toList_data, ← hx, ← hy])
  clear hu hv hx hy
  by_cases hq : x.toList = y.toList
  · go_enter Tryd.func18, Tryd.ntmps18
    go_wp2_with fail
    go_ret
    exact ⟨true, by simp, by simp; exact HQ.out.1 hq, Below.refl _ _⟩
  · go_enter Tryd.func18, Tryd.ntmps18
    go_wp2_with fail
    go_ret
    exact ⟨false, by simp [hq], by simp; exact fun e => hq (HQ.out.2 e), Below.refl _ _⟩

def countV (n m : Int) : Int := if n.tmod m < 0 then n.tmod m + m else n.tmod m
theorem countV_val {n m : Int} (hm : 0 < m) : 0 ≤ countV n m ∧ countV n m < m := by
  unfold countV
  have h1 := Int.tmod_lt_of_pos n hm
  have h2 := Int.lt_tmod_of_pos n hm
  split <;> omega
set_option maxRecDepth 100000 in
theorem count_any (n m : Int) (w : World) (hm : 0 < m) (hm2 : m ≤ 2097152) (_ : -9223372036854775808 ≤ n) (_ : n ≤ 9223372036854775807) :
    Calls Tryd.prog 19 #[.int .i64 n, .int .i64 m] w fun e w' => e = .returned (.int .i64 (countV n m)) ∧ Below w.heap.size w w' := by
  have hm0 : (m == 0) = false := by simp; omega
  have hm1 : ¬ m = 0 := by omega
  have h1 := Int.tmod_lt_of_pos n hm
  have h2 := Int.lt_tmod_of_pos n hm
  have hF : countV n m = if n.tmod m < 0 then n.tmod m + m else n.tmod m := rfl
  obtain ⟨r, hr⟩ : ∃ r, n.tmod m = r := ⟨_, rfl⟩
  rw [hr] at h1 h2 hF
  by_cases h0 : r < 0
  · rw [if_pos h0] at hF
    have HF := Lib.hid hF
    clear hF
    go_enter Tryd.func19, Tryd.ntmps19
    go_wp2_with fail
    go_ret
    exact ⟨by rw [HF.out]; rfl, Below.refl _ _⟩
  · rw [if_neg h0] at hF
    have HF := Lib.hid hF
    clear hF
    go_enter Tryd.func19, Tryd.ntmps19
    go_wp2_with fail
    go_ret
    exact ⟨by rw [HF.out]; rfl, Below.refl _ _⟩
end Go.Proofs.YtkhjdcnlpablkaaDoor
