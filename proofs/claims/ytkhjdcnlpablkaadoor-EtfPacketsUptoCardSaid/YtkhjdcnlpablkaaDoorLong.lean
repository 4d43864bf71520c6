/- Four bytes as a number (f41). -/
import Derived.Test.YtkhjdcnlpablkaaDoorPid
namespace Go.Proofs.YtkhjdcnlpablkaaDoor
open Go.RowKit
open Go.Lib (byteCells)

theorem or_join (i : Nat) (x y : Int) (hx₀ : 0 ≤ x) (hx : x % 2 ^ i = 0) (hx₁ : x < 2 ^ 62) (hy₀ : 0 ≤ y) (hy : y < 2 ^ i) (hy₁ : y < 2 ^ 62) : bits .or .i64 x y = x + y :=
  bits_join .i64 62 (by decide) wraps_i64 i x y hx₀ hx hx₁ hy₀ hy hy₁

set_option maxHeartbeats 1600000 in
set_option maxRecDepth 100000 in
theorem long_any (B : Nat) (v : Value) (n : Nat) (l : List UInt8) (hl : l.length = n) (h4 : 4 ≤ n) (hn : n ≤ 1048576) (w : World) (h : RdU B w 1 v n (byteCells l)) :
    Calls Tryd.prog 41 #[v] w fun r w' => r = .returned (.int .i64 (beN (l.take 4))) ∧ Below w.heap.size w w' := by
  obtain ⟨a, b, c, d, r, rfl⟩ : ∃ a b c d r, l = a :: b :: c :: d :: r := by
    match l, hl with
    | [], hl => simp at hl; omega
    | [_], hl => simp at hl; omega
    | [_, _], hl => simp at hl; omega
    | [_, _, _], hl => simp at hl; omega
    | a :: b :: c :: d :: r, _ => exact ⟨a, b, c, d, r, rfl⟩
  obtain ⟨g, off, cap, rfl, hc1, hc2, hc3⟩ := h.now.at (by omega)
  clear hc3
  have e0 := cells_byte h.now (k := 0) rfl hl
  have e1 := cells_byte h.now (k := 1) rfl hl
  have e2 := cells_byte h.now (k := 2) rfl hl
  have e3 := cells_byte h.now (k := 3) rfl hl
  have ba := UInt8.toNat_lt a
  have bb := UInt8.toNat_lt b
  have bc := UInt8.toNat_lt c
  have bd := UInt8.toNat_lt d
  have HV : Hid (beN ((a :: b :: c :: d :: r).take 4) = ((a.toNat * 256 + b.toNat) * 256 + c.toNat) * 256 + d.toNat) := Lib.hid (by simp [beN])
  obtain ⟨A, hA⟩ : ∃ A, a.toNat = A := ⟨_, rfl⟩
  obtain ⟨C, hC⟩ : ∃ C, b.toNat = C := ⟨_, rfl⟩
  obtain ⟨D, hD⟩ : ∃ D, c.toNat = D := ⟨_, rfl⟩
  obtain ⟨E, hE⟩ : ∃ E, d.toNat = E := ⟨_, rfl⟩
  rw [hA] at e0 ba HV
  rw [hC] at e1 bb HV
  rw [hD] at e2 bc HV
  rw [hE] at e3 bd HV
  rw [Nat.add_zero] at e0
  have o1 := or_join 24 ((A : Int) * 16777216) ((C : Int) * 65536) (by omega) (by omega) (by omega) (by omega) (by omega) (by omega)
  have o2 := or_join 16 ((A : Int) * 16777216 + (C : Int) * 65536) ((D : Int) * 256) (by omega) (by omega) (by omega) (by omega) (by omega) (by omega)
  have o3 := or_join 8 ((A : Int) * 16777216 + (C : Int) * 65536 + (D : Int) * 256) (E : Int) (by omega) (by omega) (by omega) (by omega) (by omega) (by omega)
  have s1 : wrap64 ((A : Int) * 16777216) = (A : Int) * 16777216 := by rw [w64]; exact wraps_i64 _ (by omega) (by omega)
  have s2 : wrap64 ((C : Int) * 65536) = (C : Int) * 65536 := by rw [w64]; exact wraps_i64 _ (by omega) (by omega)
  have s3 : wrap64 ((D : Int) * 256) = (D : Int) * 256 := by rw [w64]; exact wraps_i64 _ (by omega) (by omega)
  have O3 := Lib.hid (show bits .or .i64 ((A : Int) * 16777216 + (C : Int) * 65536 + (D : Int) * 256) (E : Int) = ((((A * 256 + C) * 256 + D) * 256 + E : Nat) : Int) by rw [o3]; omega)
  clear o3
  have HW := Lib.hid (show Below w.heap.size w w from Below.refl _ _)
  clear h hA hC hD hE
  go_enter Tryd.func41, Tryd.ntmps41
  go_wp2_with fail
  go_quiet (fail)
  go_wp2_with fail
  go_ret
  exact ⟨by rw [HV.out, ← O3.out]; rfl, bel_drewN (Below.refl _ _) _⟩
end Go.Proofs.YtkhjdcnlpablkaaDoor
