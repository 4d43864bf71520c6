/- The words of the language: both functions. -/
import Derived.Test.YtflbcijmfcmilaaDoorBare
import Derived.Lib.Bytealg
import Derived.Lib.SlicesS
namespace Go.Proofs.YtflbcijmfcmilaaDoor
open Go.RowKit

def resW : List (List UInt8) := [[97, 102, 116, 101, 114], [97, 110, 100], [97, 110, 100, 97, 108, 115, 111], [98, 97, 110, 100], [98, 101, 103, 105, 110], [98, 110, 111, 116], [98, 111, 114], [98, 115, 108], [98, 115, 114], [98, 120, 111, 114], [99, 97, 115, 101], [99, 97, 116, 99, 104], [99, 111, 110, 100], [100, 105, 118], [101, 108, 115, 101], [101, 110, 100], [102, 117, 110], [105, 102], [108, 101, 116], [109, 97, 121, 98, 101], [110, 111, 116], [111, 102], [111, 114], [111, 114, 101, 108, 115, 101], [114, 101, 99, 101, 105, 118, 101], [114, 101, 109], [116, 114, 121], [119, 104, 101, 110], [120, 111, 114]]
/-- A word of the language. -/
def resL (l : List UInt8) : Bool := resW.any fun x => l == x

theorem resL_no {s : ByteArray} (h : resL s.data.toList = false) : ∀ x ∈ resW, (s.toList == x) = false := by
  intro x hx
  rw [ByteArray.toList_eq]
  simpa using List.any_eq_false.1 h x hx

theorem resL_yes {s : ByteArray} (h : resL s.data.toList = true) : ∃ x ∈ resW, s = ⟨x.toArray⟩ := by
  obtain ⟨x, hx, he⟩ := List.any_eq_true.1 h
  refine ⟨x, hx, ?_⟩
  have : s.data.toList = x := by simpa using he
  rw [← this]

set_option maxRecDepth 100000 in
set_option maxHeartbeats 4000000 in
theorem res45_no (s : ByteArray) (w : World) (h : resL s.data.toList = false) : Calls Tryd.prog 45 #[.string s] w fun e w' => e = .returned (.bool false) ∧ w' = w := by
  have hn := resL_no h
  have n0 := hn [97, 102, 116, 101, 114] (by simp [resW])
  have n1 := hn [97, 110, 100] (by simp [resW])
  have n2 := hn [97, 110, 100, 97, 108, 115, 111] (by simp [resW])
  have n3 := hn [98, 97, 110, 100] (by simp [resW])
  have n4 := hn [98, 101, 103, 105, 110] (by simp [resW])
  have n5 := hn [98, 110, 111, 116] (by simp [resW])
  have n6 := hn [98, 111, 114] (by simp [resW])
  have n7 := hn [98, 115, 108] (by simp [resW])
  have n8 := hn [98, 115, 114] (by simp [resW])
  have n9 := hn [98, 120, 111, 114] (by simp [resW])
  have n10 := hn [99, 97, 115, 101] (by simp [resW])
  have n11 := hn [99, 97, 116, 99, 104] (by simp [resW])
  have n12 := hn [99, 111, 110, 100] (by simp [resW])
  have n13 := hn [100, 105, 118] (by simp [resW])
  have n14 := hn [101, 108, 115, 101] (by simp [resW])
  have n15 := hn [101, 110, 100] (by simp [resW])
  have n16 := hn [102, 117, 110] (by simp [resW])
  have n17 := hn [105, 102] (by simp [resW])
  have n18 := hn [108, 101, 116] (by simp [resW])
  have n19 := hn [109, 97, 121, 98, 101] (by simp [resW])
  have n20 := hn [110, 111, 116] (by simp [resW])
  have n21 := hn [111, 102] (by simp [resW])
  have n22 := hn [111, 114] (by simp [resW])
  have n23 := hn [111, 114, 101, 108, 115, 101] (by simp [resW])
  have n24 := hn [114, 101, 99, 101, 105, 118, 101] (by simp [resW])
  have n25 := hn [114, 101, 109] (by simp [resW])
  have n26 := hn [116, 114, 121] (by simp [resW])
  have n27 := hn [119, 104, 101, 110] (by simp [resW])
  have n28 := hn [120, 111, 114] (by simp [resW])
  clear hn h
  go_enter Tryd.func45, Tryd.ntmps45
  go_wp2_with fail
  go_ret
  exact ⟨rfl, rfl⟩

set_option maxRecDepth 100000 in
set_option maxHeartbeats 1600000 in
theorem res45_after (w : World) : Calls Tryd.prog 45 #[.string ⟨#[97, 102, 116, 101, 114]⟩] w fun e w' => e = .returned (.bool true) ∧ w' = w := by
  go_enter Tryd.func45, Tryd.ntmps45
  go_wp2_with fail
  go_ret
  exact ⟨rfl, rfl⟩
set_option maxRecDepth 100000 in
set_option maxHeartbeats 1600000 in
theorem res45_and (w : World) : Calls Tryd.prog 45 #[.string ⟨#[97, 110, 100]⟩] w fun e w' => e = .returned (.bool true) ∧ w' = w := by
  go_enter Tryd.func45, Tryd.ntmps45
  go_wp2_with fail
  go_ret
  exact ⟨rfl, rfl⟩
set_option maxRecDepth 100000 in
set_option maxHeartbeats 1600000 in
theorem res45_andalso (w : World) : Calls Tryd.prog 45 #[.string ⟨#[97, 110, 100, 97, 108, 115, 111]⟩] w fun e w' => e = .returned (.bool true) ∧ w' = w := by
  go_enter Tryd.func45, Tryd.ntmps45
  go_wp2_with fail
  go_ret
  exact ⟨rfl, rfl⟩
set_option maxRecDepth 100000 in
set_option maxHeartbeats 1600000 in
theorem res45_band (w : World) : Calls Tryd.prog 45 #[.string ⟨#[98, 97, 110, 100]⟩] w fun e w' => e = .returned (.bool true) ∧ w' = w := by
  go_enter Tryd.func45, Tryd.ntmps45
  go_wp2_with fail
  go_ret
  exact ⟨rfl, rfl⟩
set_option maxRecDepth 100000 in
set_option maxHeartbeats 1600000 in
theorem res45_begin (w : World) : Calls Tryd.prog 45 #[.string ⟨#[98, 101, 103, 105, 110]⟩] w fun e w' => e = .returned (.bool true) ∧ w' = w := by
  go_enter Tryd.func45, Tryd.ntmps45
  go_wp2_with fail
  go_ret
  exact ⟨rfl, rfl⟩
set_option maxRecDepth 100000 in
set_option maxHeartbeats 1600000 in
theorem res45_bnot (w : World) : Calls Tryd.prog 45 #[.string ⟨#[98, 110, 111, 116]⟩] w fun e w' => e = .returned (.bool true) ∧ w' = w := by
  go_enter Tryd.func45, Tryd.ntmps45
  go_wp2_with fail
  go_ret
  exact ⟨rfl, rfl⟩
set_option maxRecDepth 100000 in
set_option maxHeartbeats 1600000 in
theorem res45_bor (w : World) : Calls Tryd.prog 45 #[.string ⟨#[98, 111, 114]⟩] w fun e w' => e = .returned (.bool true) ∧ w' = w := by
  go_enter Tryd.func45, Tryd.ntmps45
  go_wp2_with fail
  go_ret
  exact ⟨rfl, rfl⟩
set_option maxRecDepth 100000 in
set_option maxHeartbeats 1600000 in
theorem res45_bsl (w : World) : Calls Tryd.prog 45 #[.string ⟨#[98, 115, 108]⟩] w fun e w' => e = .returned (.bool true) ∧ w' = w := by
  go_enter Tryd.func45, Tryd.ntmps45
  go_wp2_with fail
  go_ret
  exact ⟨rfl, rfl⟩
set_option maxRecDepth 100000 in
set_option maxHeartbeats 1600000 in
theorem res45_bsr (w : World) : Calls Tryd.prog 45 #[.string ⟨#[98, 115, 114]⟩] w fun e w' => e = .returned (.bool true) ∧ w' = w := by
  go_enter Tryd.func45, Tryd.ntmps45
  go_wp2_with fail
  go_ret
  exact ⟨rfl, rfl⟩
set_option maxRecDepth 100000 in
set_option maxHeartbeats 1600000 in
theorem res45_bxor (w : World) : Calls Tryd.prog 45 #[.string ⟨#[98, 120, 111, 114]⟩] w fun e w' => e = .returned (.bool true) ∧ w' = w := by
  go_enter Tryd.func45, Tryd.ntmps45
  go_wp2_with fail
  go_ret
  exact ⟨rfl, rfl⟩
set_option maxRecDepth 100000 in
set_option maxHeartbeats 1600000 in
theorem res45_case (w : World) : Calls Tryd.prog 45 #[.string ⟨#[99, 97, 115, 101]⟩] w fun e w' => e = .returned (.bool true) ∧ w' = w := by
  go_enter Tryd.func45, Tryd.ntmps45
  go_wp2_with fail
  go_ret
  exact ⟨rfl, rfl⟩
set_option maxRecDepth 100000 in
set_option maxHeartbeats 1600000 in
theorem res45_catch (w : World) : Calls Tryd.prog 45 #[.string ⟨#[99, 97, 116, 99, 104]⟩] w fun e w' => e = .returned (.bool true) ∧ w' = w := by
  go_enter Tryd.func45, Tryd.ntmps45
  go_wp2_with fail
  go_ret
  exact ⟨rfl, rfl⟩
set_option maxRecDepth 100000 in
set_option maxHeartbeats 1600000 in
theorem res45_cond (w : World) : Calls Tryd.prog 45 #[.string ⟨#[99, 111, 110, 100]⟩] w fun e w' => e = .returned (.bool true) ∧ w' = w := by
  go_enter Tryd.func45, Tryd.ntmps45
  go_wp2_with fail
  go_ret
  exact ⟨rfl, rfl⟩
set_option maxRecDepth 100000 in
set_option maxHeartbeats 1600000 in
theorem res45_div (w : World) : Calls Tryd.prog 45 #[.string ⟨#[100, 105, 118]⟩] w fun e w' => e = .returned (.bool true) ∧ w' = w := by
  go_enter Tryd.func45, Tryd.ntmps45
  go_wp2_with fail
  go_ret
  exact ⟨rfl, rfl⟩
set_option maxRecDepth 100000 in
set_option maxHeartbeats 1600000 in
theorem res45_else (w : World) : Calls Tryd.prog 45 #[.string ⟨#[101, 108, 115, 101]⟩] w fun e w' => e = .returned (.bool true) ∧ w' = w := by
  go_enter Tryd.func45, Tryd.ntmps45
  go_wp2_with fail
  go_ret
  exact ⟨rfl, rfl⟩
set_option maxRecDepth 100000 in
set_option maxHeartbeats 1600000 in
theorem res45_end (w : World) : Calls Tryd.prog 45 #[.string ⟨#[101, 110, 100]⟩] w fun e w' => e = .returned (.bool true) ∧ w' = w := by
  go_enter Tryd.func45, Tryd.ntmps45
  go_wp2_with fail
  go_ret
  exact ⟨rfl, rfl⟩
set_option maxRecDepth 100000 in
set_option maxHeartbeats 1600000 in
theorem res45_fun (w : World) : Calls Tryd.prog 45 #[.string ⟨#[102, 117, 110]⟩] w fun e w' => e = .returned (.bool true) ∧ w' = w := by
  go_enter Tryd.func45, Tryd.ntmps45
  go_wp2_with fail
  go_ret
  exact ⟨rfl, rfl⟩
set_option maxRecDepth 100000 in
set_option maxHeartbeats 1600000 in
theorem res45_if (w : World) : Calls Tryd.prog 45 #[.string ⟨#[105, 102]⟩] w fun e w' => e = .returned (.bool true) ∧ w' = w := by
  go_enter Tryd.func45, Tryd.ntmps45
  go_wp2_with fail
  go_ret
  exact ⟨rfl, rfl⟩
set_option maxRecDepth 100000 in
set_option maxHeartbeats 1600000 in
theorem res45_let (w : World) : Calls Tryd.prog 45 #[.string ⟨#[108, 101, 116]⟩] w fun e w' => e = .returned (.bool true) ∧ w' = w := by
  go_enter Tryd.func45, Tryd.ntmps45
  go_wp2_with fail
  go_ret
  exact ⟨rfl, rfl⟩
set_option maxRecDepth 100000 in
set_option maxHeartbeats 1600000 in
theorem res45_maybe (w : World) : Calls Tryd.prog 45 #[.string ⟨#[109, 97, 121, 98, 101]⟩] w fun e w' => e = .returned (.bool true) ∧ w' = w := by
  go_enter Tryd.func45, Tryd.ntmps45
  go_wp2_with fail
  go_ret
  exact ⟨rfl, rfl⟩
set_option maxRecDepth 100000 in
set_option maxHeartbeats 1600000 in
theorem res45_not (w : World) : Calls Tryd.prog 45 #[.string ⟨#[110, 111, 116]⟩] w fun e w' => e = .returned (.bool true) ∧ w' = w := by
  go_enter Tryd.func45, Tryd.ntmps45
  go_wp2_with fail
  go_ret
  exact ⟨rfl, rfl⟩
set_option maxRecDepth 100000 in
set_option maxHeartbeats 1600000 in
theorem res45_of (w : World) : Calls Tryd.prog 45 #[.string ⟨#[111, 102]⟩] w fun e w' => e = .returned (.bool true) ∧ w' = w := by
  go_enter Tryd.func45, Tryd.ntmps45
  go_wp2_with fail
  go_ret
  exact ⟨rfl, rfl⟩
set_option maxRecDepth 100000 in
set_option maxHeartbeats 1600000 in
theorem res45_or (w : World) : Calls Tryd.prog 45 #[.string ⟨#[111, 114]⟩] w fun e w' => e = .returned (.bool true) ∧ w' = w := by
  go_enter Tryd.func45, Tryd.ntmps45
  go_wp2_with fail
  go_ret
  exact ⟨rfl, rfl⟩
set_option maxRecDepth 100000 in
set_option maxHeartbeats 1600000 in
theorem res45_orelse (w : World) : Calls Tryd.prog 45 #[.string ⟨#[111, 114, 101, 108, 115, 101]⟩] w fun e w' => e = .returned (.bool true) ∧ w' = w := by
  go_enter Tryd.func45, Tryd.ntmps45
  go_wp2_with fail
  go_ret
  exact ⟨rfl, rfl⟩
set_option maxRecDepth 100000 in
set_option maxHeartbeats 1600000 in
theorem res45_receive (w : World) : Calls Tryd.prog 45 #[.string ⟨#[114, 101, 99, 101, 105, 118, 101]⟩] w fun e w' => e = .returned (.bool true) ∧ w' = w := by
  go_enter Tryd.func45, Tryd.ntmps45
  go_wp2_with fail
  go_ret
  exact ⟨rfl, rfl⟩
set_option maxRecDepth 100000 in
set_option maxHeartbeats 1600000 in
theorem res45_rem (w : World) : Calls Tryd.prog 45 #[.string ⟨#[114, 101, 109]⟩] w fun e w' => e = .returned (.bool true) ∧ w' = w := by
  go_enter Tryd.func45, Tryd.ntmps45
  go_wp2_with fail
  go_ret
  exact ⟨rfl, rfl⟩
set_option maxRecDepth 100000 in
set_option maxHeartbeats 1600000 in
theorem res45_try (w : World) : Calls Tryd.prog 45 #[.string ⟨#[116, 114, 121]⟩] w fun e w' => e = .returned (.bool true) ∧ w' = w := by
  go_enter Tryd.func45, Tryd.ntmps45
  go_wp2_with fail
  go_ret
  exact ⟨rfl, rfl⟩
set_option maxRecDepth 100000 in
set_option maxHeartbeats 1600000 in
theorem res45_when (w : World) : Calls Tryd.prog 45 #[.string ⟨#[119, 104, 101, 110]⟩] w fun e w' => e = .returned (.bool true) ∧ w' = w := by
  go_enter Tryd.func45, Tryd.ntmps45
  go_wp2_with fail
  go_ret
  exact ⟨rfl, rfl⟩
set_option maxRecDepth 100000 in
set_option maxHeartbeats 1600000 in
theorem res45_xor (w : World) : Calls Tryd.prog 45 #[.string ⟨#[120, 111, 114]⟩] w fun e w' => e = .returned (.bool true) ∧ w' = w := by
  go_enter Tryd.func45, Tryd.ntmps45
  go_wp2_with fail
  go_ret
  exact ⟨rfl, rfl⟩

theorem res45_any (s : ByteArray) (w : World) : Calls Tryd.prog 45 #[.string s] w fun e w' => e = .returned (.bool (resL s.data.toList)) ∧ w' = w := by
  cases h : resL s.data.toList with
  | false => exact res45_no s w h
  | true =>
    obtain ⟨x, hm, rfl⟩ := resL_yes h
    simp only [resW, List.mem_cons, List.not_mem_nil, or_false] at hm
    rcases hm with rfl | rfl | rfl | rfl | rfl | rfl | rfl | rfl | rfl | rfl | rfl | rfl | rfl | rfl | rfl | rfl | rfl | rfl | rfl | rfl | rfl | rfl | rfl | rfl | rfl | rfl | rfl | rfl | rfl
    · exact res45_after w
    · exact res45_and w
    · exact res45_andalso w
    · exact res45_band w
    · exact res45_begin w
    · exact res45_bnot w
    · exact res45_bor w
    · exact res45_bsl w
    · exact res45_bsr w
    · exact res45_bxor w
    · exact res45_case w
    · exact res45_catch w
    · exact res45_cond w
    · exact res45_div w
    · exact res45_else w
    · exact res45_end w
    · exact res45_fun w
    · exact res45_if w
    · exact res45_let w
    · exact res45_maybe w
    · exact res45_not w
    · exact res45_of w
    · exact res45_or w
    · exact res45_orelse w
    · exact res45_receive w
    · exact res45_rem w
    · exact res45_try w
    · exact res45_when w
    · exact res45_xor w

set_option maxRecDepth 100000 in
set_option maxHeartbeats 4000000 in
theorem res46_no (s : ByteArray) (w : World) (h : resL s.data.toList = false) : Calls Tryd.prog 46 #[.string s] w fun e w' => e = .returned (.bool false) ∧ w' = w := by
  have hn := resL_no h
  have n0 := hn [97, 102, 116, 101, 114] (by simp [resW])
  have n1 := hn [97, 110, 100] (by simp [resW])
  have n2 := hn [97, 110, 100, 97, 108, 115, 111] (by simp [resW])
  have n3 := hn [98, 97, 110, 100] (by simp [resW])
  have n4 := hn [98, 101, 103, 105, 110] (by simp [resW])
  have n5 := hn [98, 110, 111, 116] (by simp [resW])
  have n6 := hn [98, 111, 114] (by simp [resW])
  have n7 := hn [98, 115, 108] (by simp [resW])
  have n8 := hn [98, 115, 114] (by simp [resW])
  have n9 := hn [98, 120, 111, 114] (by simp [resW])
  have n10 := hn [99, 97, 115, 101] (by simp [resW])
  have n11 := hn [99, 97, 116, 99, 104] (by simp [resW])
  have n12 := hn [99, 111, 110, 100] (by simp [resW])
  have n13 := hn [100, 105, 118] (by simp [resW])
  have n14 := hn [101, 108, 115, 101] (by simp [resW])
  have n15 := hn [101, 110, 100] (by simp [resW])
  have n16 := hn [102, 117, 110] (by simp [resW])
  have n17 := hn [105, 102] (by simp [resW])
  have n18 := hn [108, 101, 116] (by simp [resW])
  have n19 := hn [109, 97, 121, 98, 101] (by simp [resW])
  have n20 := hn [110, 111, 116] (by simp [resW])
  have n21 := hn [111, 102] (by simp [resW])
  have n22 := hn [111, 114] (by simp [resW])
  have n23 := hn [111, 114, 101, 108, 115, 101] (by simp [resW])
  have n24 := hn [114, 101, 99, 101, 105, 118, 101] (by simp [resW])
  have n25 := hn [114, 101, 109] (by simp [resW])
  have n26 := hn [116, 114, 121] (by simp [resW])
  have n27 := hn [119, 104, 101, 110] (by simp [resW])
  have n28 := hn [120, 111, 114] (by simp [resW])
  clear hn h
  go_enter Tryd.func46, Tryd.ntmps46
  go_wp2_with fail
  go_ret
  exact ⟨rfl, rfl⟩

set_option maxRecDepth 100000 in
set_option maxHeartbeats 1600000 in
theorem res46_after (w : World) : Calls Tryd.prog 46 #[.string ⟨#[97, 102, 116, 101, 114]⟩] w fun e w' => e = .returned (.bool true) ∧ w' = w := by
  go_enter Tryd.func46, Tryd.ntmps46
  go_wp2_with fail
  go_ret
  exact ⟨rfl, rfl⟩
set_option maxRecDepth 100000 in
set_option maxHeartbeats 1600000 in
theorem res46_and (w : World) : Calls Tryd.prog 46 #[.string ⟨#[97, 110, 100]⟩] w fun e w' => e = .returned (.bool true) ∧ w' = w := by
  go_enter Tryd.func46, Tryd.ntmps46
  go_wp2_with fail
  go_ret
  exact ⟨rfl, rfl⟩
set_option maxRecDepth 100000 in
set_option maxHeartbeats 1600000 in
theorem res46_andalso (w : World) : Calls Tryd.prog 46 #[.string ⟨#[97, 110, 100, 97, 108, 115, 111]⟩] w fun e w' => e = .returned (.bool true) ∧ w' = w := by
  go_enter Tryd.func46, Tryd.ntmps46
  go_wp2_with fail
  go_ret
  exact ⟨rfl, rfl⟩
set_option maxRecDepth 100000 in
set_option maxHeartbeats 1600000 in
theorem res46_band (w : World) : Calls Tryd.prog 46 #[.string ⟨#[98, 97, 110, 100]⟩] w fun e w' => e = .returned (.bool true) ∧ w' = w := by
  go_enter Tryd.func46, Tryd.ntmps46
  go_wp2_with fail
  go_ret
  exact ⟨rfl, rfl⟩
set_option maxRecDepth 100000 in
set_option maxHeartbeats 1600000 in
theorem res46_begin (w : World) : Calls Tryd.prog 46 #[.string ⟨#[98, 101, 103, 105, 110]⟩] w fun e w' => e = .returned (.bool true) ∧ w' = w := by
  go_enter Tryd.func46, Tryd.ntmps46
  go_wp2_with fail
  go_ret
  exact ⟨rfl, rfl⟩
set_option maxRecDepth 100000 in
set_option maxHeartbeats 1600000 in
theorem res46_bnot (w : World) : Calls Tryd.prog 46 #[.string ⟨#[98, 110, 111, 116]⟩] w fun e w' => e = .returned (.bool true) ∧ w' = w := by
  go_enter Tryd.func46, Tryd.ntmps46
  go_wp2_with fail
  go_ret
  exact ⟨rfl, rfl⟩
set_option maxRecDepth 100000 in
set_option maxHeartbeats 1600000 in
theorem res46_bor (w : World) : Calls Tryd.prog 46 #[.string ⟨#[98, 111, 114]⟩] w fun e w' => e = .returned (.bool true) ∧ w' = w := by
  go_enter Tryd.func46, Tryd.ntmps46
  go_wp2_with fail
  go_ret
  exact ⟨rfl, rfl⟩
set_option maxRecDepth 100000 in
set_option maxHeartbeats 1600000 in
theorem res46_bsl (w : World) : Calls Tryd.prog 46 #[.string ⟨#[98, 115, 108]⟩] w fun e w' => e = .returned (.bool true) ∧ w' = w := by
  go_enter Tryd.func46, Tryd.ntmps46
  go_wp2_with fail
  go_ret
  exact ⟨rfl, rfl⟩
set_option maxRecDepth 100000 in
set_option maxHeartbeats 1600000 in
theorem res46_bsr (w : World) : Calls Tryd.prog 46 #[.string ⟨#[98, 115, 114]⟩] w fun e w' => e = .returned (.bool true) ∧ w' = w := by
  go_enter Tryd.func46, Tryd.ntmps46
  go_wp2_with fail
  go_ret
  exact ⟨rfl, rfl⟩
set_option maxRecDepth 100000 in
set_option maxHeartbeats 1600000 in
theorem res46_bxor (w : World) : Calls Tryd.prog 46 #[.string ⟨#[98, 120, 111, 114]⟩] w fun e w' => e = .returned (.bool true) ∧ w' = w := by
  go_enter Tryd.func46, Tryd.ntmps46
  go_wp2_with fail
  go_ret
  exact ⟨rfl, rfl⟩
set_option maxRecDepth 100000 in
set_option maxHeartbeats 1600000 in
theorem res46_case (w : World) : Calls Tryd.prog 46 #[.string ⟨#[99, 97, 115, 101]⟩] w fun e w' => e = .returned (.bool true) ∧ w' = w := by
  go_enter Tryd.func46, Tryd.ntmps46
  go_wp2_with fail
  go_ret
  exact ⟨rfl, rfl⟩
set_option maxRecDepth 100000 in
set_option maxHeartbeats 1600000 in
theorem res46_catch (w : World) : Calls Tryd.prog 46 #[.string ⟨#[99, 97, 116, 99, 104]⟩] w fun e w' => e = .returned (.bool true) ∧ w' = w := by
  go_enter Tryd.func46, Tryd.ntmps46
  go_wp2_with fail
  go_ret
  exact ⟨rfl, rfl⟩
set_option maxRecDepth 100000 in
set_option maxHeartbeats 1600000 in
theorem res46_cond (w : World) : Calls Tryd.prog 46 #[.string ⟨#[99, 111, 110, 100]⟩] w fun e w' => e = .returned (.bool true) ∧ w' = w := by
  go_enter Tryd.func46, Tryd.ntmps46
  go_wp2_with fail
  go_ret
  exact ⟨rfl, rfl⟩
set_option maxRecDepth 100000 in
set_option maxHeartbeats 1600000 in
theorem res46_div (w : World) : Calls Tryd.prog 46 #[.string ⟨#[100, 105, 118]⟩] w fun e w' => e = .returned (.bool true) ∧ w' = w := by
  go_enter Tryd.func46, Tryd.ntmps46
  go_wp2_with fail
  go_ret
  exact ⟨rfl, rfl⟩
set_option maxRecDepth 100000 in
set_option maxHeartbeats 1600000 in
theorem res46_else (w : World) : Calls Tryd.prog 46 #[.string ⟨#[101, 108, 115, 101]⟩] w fun e w' => e = .returned (.bool true) ∧ w' = w := by
  go_enter Tryd.func46, Tryd.ntmps46
  go_wp2_with fail
  go_ret
  exact ⟨rfl, rfl⟩
set_option maxRecDepth 100000 in
set_option maxHeartbeats 1600000 in
theorem res46_end (w : World) : Calls Tryd.prog 46 #[.string ⟨#[101, 110, 100]⟩] w fun e w' => e = .returned (.bool true) ∧ w' = w := by
  go_enter Tryd.func46, Tryd.ntmps46
  go_wp2_with fail
  go_ret
  exact ⟨rfl, rfl⟩
set_option maxRecDepth 100000 in
set_option maxHeartbeats 1600000 in
theorem res46_fun (w : World) : Calls Tryd.prog 46 #[.string ⟨#[102, 117, 110]⟩] w fun e w' => e = .returned (.bool true) ∧ w' = w := by
  go_enter Tryd.func46, Tryd.ntmps46
  go_wp2_with fail
  go_ret
  exact ⟨rfl, rfl⟩
set_option maxRecDepth 100000 in
set_option maxHeartbeats 1600000 in
theorem res46_if (w : World) : Calls Tryd.prog 46 #[.string ⟨#[105, 102]⟩] w fun e w' => e = .returned (.bool true) ∧ w' = w := by
  go_enter Tryd.func46, Tryd.ntmps46
  go_wp2_with fail
  go_ret
  exact ⟨rfl, rfl⟩
set_option maxRecDepth 100000 in
set_option maxHeartbeats 1600000 in
theorem res46_let (w : World) : Calls Tryd.prog 46 #[.string ⟨#[108, 101, 116]⟩] w fun e w' => e = .returned (.bool true) ∧ w' = w := by
  go_enter Tryd.func46, Tryd.ntmps46
  go_wp2_with fail
  go_ret
  exact ⟨rfl, rfl⟩
set_option maxRecDepth 100000 in
set_option maxHeartbeats 1600000 in
theorem res46_maybe (w : World) : Calls Tryd.prog 46 #[.string ⟨#[109, 97, 121, 98, 101]⟩] w fun e w' => e = .returned (.bool true) ∧ w' = w := by
  go_enter Tryd.func46, Tryd.ntmps46
  go_wp2_with fail
  go_ret
  exact ⟨rfl, rfl⟩
set_option maxRecDepth 100000 in
set_option maxHeartbeats 1600000 in
theorem res46_not (w : World) : Calls Tryd.prog 46 #[.string ⟨#[110, 111, 116]⟩] w fun e w' => e = .returned (.bool true) ∧ w' = w := by
  go_enter Tryd.func46, Tryd.ntmps46
  go_wp2_with fail
  go_ret
  exact ⟨rfl, rfl⟩
set_option maxRecDepth 100000 in
set_option maxHeartbeats 1600000 in
theorem res46_of (w : World) : Calls Tryd.prog 46 #[.string ⟨#[111, 102]⟩] w fun e w' => e = .returned (.bool true) ∧ w' = w := by
  go_enter Tryd.func46, Tryd.ntmps46
  go_wp2_with fail
  go_ret
  exact ⟨rfl, rfl⟩
set_option maxRecDepth 100000 in
set_option maxHeartbeats 1600000 in
theorem res46_or (w : World) : Calls Tryd.prog 46 #[.string ⟨#[111, 114]⟩] w fun e w' => e = .returned (.bool true) ∧ w' = w := by
  go_enter Tryd.func46, Tryd.ntmps46
  go_wp2_with fail
  go_ret
  exact ⟨rfl, rfl⟩
set_option maxRecDepth 100000 in
set_option maxHeartbeats 1600000 in
theorem res46_orelse (w : World) : Calls Tryd.prog 46 #[.string ⟨#[111, 114, 101, 108, 115, 101]⟩] w fun e w' => e = .returned (.bool true) ∧ w' = w := by
  go_enter Tryd.func46, Tryd.ntmps46
  go_wp2_with fail
  go_ret
  exact ⟨rfl, rfl⟩
set_option maxRecDepth 100000 in
set_option maxHeartbeats 1600000 in
theorem res46_receive (w : World) : Calls Tryd.prog 46 #[.string ⟨#[114, 101, 99, 101, 105, 118, 101]⟩] w fun e w' => e = .returned (.bool true) ∧ w' = w := by
  go_enter Tryd.func46, Tryd.ntmps46
  go_wp2_with fail
  go_ret
  exact ⟨rfl, rfl⟩
set_option maxRecDepth 100000 in
set_option maxHeartbeats 1600000 in
theorem res46_rem (w : World) : Calls Tryd.prog 46 #[.string ⟨#[114, 101, 109]⟩] w fun e w' => e = .returned (.bool true) ∧ w' = w := by
  go_enter Tryd.func46, Tryd.ntmps46
  go_wp2_with fail
  go_ret
  exact ⟨rfl, rfl⟩
set_option maxRecDepth 100000 in
set_option maxHeartbeats 1600000 in
theorem res46_try (w : World) : Calls Tryd.prog 46 #[.string ⟨#[116, 114, 121]⟩] w fun e w' => e = .returned (.bool true) ∧ w' = w := by
  go_enter Tryd.func46, Tryd.ntmps46
  go_wp2_with fail
  go_ret
  exact ⟨rfl, rfl⟩
set_option maxRecDepth 100000 in
set_option maxHeartbeats 1600000 in
theorem res46_when (w : World) : Calls Tryd.prog 46 #[.string ⟨#[119, 104, 101, 110]⟩] w fun e w' => e = .returned (.bool true) ∧ w' = w := by
  go_enter Tryd.func46, Tryd.ntmps46
  go_wp2_with fail
  go_ret
  exact ⟨rfl, rfl⟩
set_option maxRecDepth 100000 in
set_option maxHeartbeats 1600000 in
theorem res46_xor (w : World) : Calls Tryd.prog 46 #[.string ⟨#[120, 111, 114]⟩] w fun e w' => e = .returned (.bool true) ∧ w' = w := by
  go_enter Tryd.func46, Tryd.ntmps46
  go_wp2_with fail
  go_ret
  exact ⟨rfl, rfl⟩

theorem res46_any (s : ByteArray) (w : World) : Calls Tryd.prog 46 #[.string s] w fun e w' => e = .returned (.bool (resL s.data.toList)) ∧ w' = w := by
  cases h : resL s.data.toList with
  | false => exact res46_no s w h
  | true =>
    obtain ⟨x, hm, rfl⟩ := resL_yes h
    simp only [resW, List.mem_cons, List.not_mem_nil, or_false] at hm
    rcases hm with rfl | rfl | rfl | rfl | rfl | rfl | rfl | rfl | rfl | rfl | rfl | rfl | rfl | rfl | rfl | rfl | rfl | rfl | rfl | rfl | rfl | rfl | rfl | rfl | rfl | rfl | rfl | rfl | rfl
    · exact res46_after w
    · exact res46_and w
    · exact res46_andalso w
    · exact res46_band w
    · exact res46_begin w
    · exact res46_bnot w
    · exact res46_bor w
    · exact res46_bsl w
    · exact res46_bsr w
    · exact res46_bxor w
    · exact res46_case w
    · exact res46_catch w
    · exact res46_cond w
    · exact res46_div w
    · exact res46_else w
    · exact res46_end w
    · exact res46_fun w
    · exact res46_if w
    · exact res46_let w
    · exact res46_maybe w
    · exact res46_not w
    · exact res46_of w
    · exact res46_or w
    · exact res46_orelse w
    · exact res46_receive w
    · exact res46_rem w
    · exact res46_try w
    · exact res46_when w
    · exact res46_xor w

end Go.Proofs.YtflbcijmfcmilaaDoor
