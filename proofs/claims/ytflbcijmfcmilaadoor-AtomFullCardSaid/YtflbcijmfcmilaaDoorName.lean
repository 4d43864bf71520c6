/- Name, both sides. -/
import Derived.Test.YtflbcijmfcmilaaDoorRtab2
namespace Go.Proofs.YtflbcijmfcmilaaDoor
open Go.RowKit

/-- What Name answers. -/
def nameV (L : List ByteArray) (n : Int) : ByteArray × Nat := if n < 1 ∨ (L.length : Int) < n then (⟨#[]⟩, 5) else match L[(n - 1).toNat]? with
  | some x => (x, 0)
  | none => (⟨#[]⟩, 5)

set_option maxHeartbeats 800000 in
theorem rname_any (r : Nat) (sv : Value) (L : List ByteArray) (hL : L.length ≤ 1000000) (n : Int) (w : World) (h : Rt w r sv L) :
    Calls Tryd.prog 33 #[.pointer (some ⟨r, 0, none⟩), .int .i64 n] w fun e w' => e = .returned (.tuple #[.string (nameV L n).1, .int .i64 (nameV L n).2]) ∧ w' = w := by
  have c0 := blk_cell h.blk 0
  simp at c0
  have hs := h.sl
  obtain ⟨ao, cap, rfl, hcap, hmax⟩ := hs.shape
  clear h
  by_cases h1 : n < 1
  · have HF : Hid (nameV L n = (⟨#[]⟩, 5)) := Lib.hid (by unfold nameV; rw [if_pos (.inl h1)])
    have h1z : decide (n < 1) = true := by simpa using h1
    go_enter Tryd.func33, Tryd.ntmps33
    go_wp2_with fail
    go_ret2
    exact ⟨by rw [HF.out]; rfl, rfl⟩
  · by_cases h2 : (L.length : Int) < n
    · have HF : Hid (nameV L n = (⟨#[]⟩, 5)) := Lib.hid (by unfold nameV; rw [if_pos (.inr h2)])
      have h1z : decide (n < 1) = false := by simpa using h1
      go_enter Tryd.func33, Tryd.ntmps33
      go_wp2_with fail
      go_ret2
      exact ⟨by rw [HF.out]; rfl, rfl⟩
    · obtain ⟨k, rfl⟩ : ∃ k : Nat, n = (k : Int) + 1 := ⟨(n - 1).toNat, by omega⟩
      have hkl : k < L.length := by omega
      obtain ⟨g, off, cap', cur, hv, _, _, hg, _, _⟩ := hs.blk (by omega)
      simp at hv
      obtain ⟨rfl, rfl⟩ := hv
      obtain ⟨x, hx⟩ : ∃ x, L[k]? = some x := ⟨L[k], List.getElem?_eq_getElem _⟩
      have hck := hs.cell k (by omega)
      rw [strs_at hx] at hck
      have HF : Hid (nameV L ((k : Int) + 1) = (x, 0)) := Lib.hid (by
        unfold nameV
        rw [if_neg (by omega), show ((k : Int) + 1 - 1).toNat = k by omega, hx])
      have h1z : decide ((k : Int) + 1 < 1) = false := by simp; omega
      have h2z : decide ((L.length : Int) < (k : Int) + 1) = false := by simp; omega
      have e1 : (k : Int) + 1 - 1 = (k : Int) := by omega
      have hki : (k : Int) < (L.length : Int) := by omega
      clear hg hx
      go_enter Tryd.func33, Tryd.ntmps33
      go_wp2_with fail
      go_ret2
      exact ⟨by rw [HF.out]; rfl, rfl⟩
set_option maxHeartbeats 800000 in
theorem name_any (p b : Nat) (sv : Value) (L : List ByteArray) (hL : L.length ≤ 1000000) (n : Int) (w : World) (h : Tb w p sv b L) :
    Calls Tryd.prog 29 #[.pointer (some ⟨p, 0, none⟩), .int .i64 n] w fun e w' => e = .returned (.tuple #[.string (nameV L n).1, .int .i64 (nameV L n).2]) ∧ w' = w := by
  have c0 := blk_cell h.blk 0
  simp at c0
  have hs := h.sl
  obtain ⟨ao, cap, rfl, hcap, hmax⟩ := hs.shape
  clear h
  by_cases h1 : n < 1
  · have HF : Hid (nameV L n = (⟨#[]⟩, 5)) := Lib.hid (by unfold nameV; rw [if_pos (.inl h1)])
    have h1z : decide (n < 1) = true := by simpa using h1
    go_enter Tryd.func29, Tryd.ntmps29
    go_wp2_with fail
    go_ret2
    exact ⟨by rw [HF.out]; rfl, rfl⟩
  · by_cases h2 : (L.length : Int) < n
    · have HF : Hid (nameV L n = (⟨#[]⟩, 5)) := Lib.hid (by unfold nameV; rw [if_pos (.inr h2)])
      have h1z : decide (n < 1) = false := by simpa using h1
      go_enter Tryd.func29, Tryd.ntmps29
      go_wp2_with fail
      go_ret2
      exact ⟨by rw [HF.out]; rfl, rfl⟩
    · obtain ⟨k, rfl⟩ : ∃ k : Nat, n = (k : Int) + 1 := ⟨(n - 1).toNat, by omega⟩
      have hkl : k < L.length := by omega
      obtain ⟨g, off, cap', cur, hv, _, _, hg, _, _⟩ := hs.blk (by omega)
      simp at hv
      obtain ⟨rfl, rfl⟩ := hv
      obtain ⟨x, hx⟩ : ∃ x, L[k]? = some x := ⟨L[k], List.getElem?_eq_getElem _⟩
      have hck := hs.cell k (by omega)
      rw [strs_at hx] at hck
      have HF : Hid (nameV L ((k : Int) + 1) = (x, 0)) := Lib.hid (by
        unfold nameV
        rw [if_neg (by omega), show ((k : Int) + 1 - 1).toNat = k by omega, hx])
      have h1z : decide ((k : Int) + 1 < 1) = false := by simp; omega
      have h2z : decide ((L.length : Int) < (k : Int) + 1) = false := by simp; omega
      have e1 : (k : Int) + 1 - 1 = (k : Int) := by omega
      have hki : (k : Int) < (L.length : Int) := by omega
      clear hg hx
      go_enter Tryd.func29, Tryd.ntmps29
      go_wp2_with fail
      go_ret2
      exact ⟨by rw [HF.out]; rfl, rfl⟩
end Go.Proofs.YtflbcijmfcmilaaDoor
