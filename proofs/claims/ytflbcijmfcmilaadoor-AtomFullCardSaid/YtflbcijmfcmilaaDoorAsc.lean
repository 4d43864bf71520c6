/- Fixed texts: are they valid, are they bare, are they words of the language? -/
import Derived.Test.YtflbcijmfcmilaaDoorOrd
import Derived.Test.YtflbcijmfcmilaaDoorRows
import Derived.Deep.CutBlock
import Derived.Deep.DeepCutAuto
import Derived.WalkSpells
namespace Go.Proofs.YtflbcijmfcmilaaDoor
open Go.RowKit

/-- All bytes below 128. -/
def Ascii (t : ByteArray) : Prop := ∀ x ∈ t.data.toList, x.toNat < 128

theorem Ascii.at {t : ByteArray} (h : Ascii t) {i : Nat} (hi : i < t.size) : ((t[i]'hi).toNat : Int) < 128 := by
  have : (t[i]'hi) ∈ t.data.toList := by
    show t.data[i] ∈ t.data.toList
    simp
  have := h _ this
  omega

theorem Ascii.tail {t : ByteArray} (h : Ascii t) (n : Nat) : Ascii (t.extract 1 n) := by
  intro x hx
  refine h x ?_
  rw [ByteArray.data_extract, Array.toList_extract] at hx
  simp at hx
  exact List.mem_of_mem_tail (List.mem_of_mem_take hx)

set_option maxRecDepth 100000 in
theorem valid_short (t : ByteArray) (w : World) (ht : t.size ≤ 8) (ha : Ascii t) : Calls Tryd.prog 43 #[.string t] w fun e w' => e = .returned (.bool true) ∧ w' = w := by
  go_enter Tryd.func43, Tryd.ntmps43
  go_wp2_with fail
  go_loopg [0, 3] t.size (fun g s0 s3 wr => ∃ t : ByteArray, t.size = g ∧ g ≤ 8 ∧ Ascii t ∧ s0 = .string t ∧ wr = w)
  case atStart => exact ⟨t, rfl, ht, ha, rfl, rfl⟩
  case round =>
    clear ht ha
    obtain ⟨t, hk, ht, ha, rfl, rfl⟩ := hrel
    cases gk with
    | zero =>
      go_wp2_with fail
      go_ret
      exact ⟨rfl, rfl⟩
    | succ g =>
      have h0 : 0 < t.size := by omega
      have hx := ha.at h0
      go_wp2_with fail
      go_roundg g
      case measure => omega
      case rel => exact ⟨t.extract 1 (g + 1), by simp; omega, by omega, ha.tail _, rfl, rfl⟩

end Go.Proofs.YtflbcijmfcmilaaDoor
