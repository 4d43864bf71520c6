/- The letters of runes, both sides; numbers in base 16, both sides. -/
import Derived.Test.YtflbcijmfcmilaaDoorRun
import Derived.Test.YtflbcijmfcmilaaDoorBack
import Derived.Test.YtflbcijmfcmilaaDoorShelf
import Derived.Laws.IdiomStrings
namespace Go.Proofs.YtflbcijmfcmilaaDoor
open Go.RowKit

theorem escF_none {v : Nat} (h : escF v = 0) : v ≠ 8 ∧ v ≠ 9 ∧ v ≠ 10 ∧ v ≠ 11 ∧ v ≠ 12 ∧ v ≠ 13 ∧ v ≠ 27 ∧ v ≠ 127 := by
  refine ⟨?_, ?_, ?_, ?_, ?_, ?_, ?_, ?_⟩ <;> (rintro rfl; revert h; decide)

set_option maxRecDepth 100000 in
theorem escape_any (r : Nat) (w : World) : Calls Tryd.prog 35 #[.int .i32 r] w fun e w' => e = .returned (.int .u8 (escF r)) ∧ w' = w := by
  by_cases h : escF r = 0
  · obtain ⟨h1, h2, h3, h4, h5, h6, h7, h8⟩ := escF_none h
    rw [h]
    clear h
    have e1 : ((r : Int) == 8) = false := by simp; omega
    have e2 : ((r : Int) == 9) = false := by simp; omega
    have e3 : ((r : Int) == 10) = false := by simp; omega
    have e4 : ((r : Int) == 11) = false := by simp; omega
    have e5 : ((r : Int) == 12) = false := by simp; omega
    have e6 : ((r : Int) == 13) = false := by simp; omega
    have e7 : ((r : Int) == 27) = false := by simp; omega
    have e8 : ((r : Int) == 127) = false := by simp; omega
    clear h1 h2 h3 h4 h5 h6 h7 h8
    go_enter Tryd.func35, Tryd.ntmps35
    go_wp2_with fail
    go_ret
    exact ⟨rfl, rfl⟩
  · rcases escF_cases r h with rfl | rfl | rfl | rfl | rfl | rfl | rfl | rfl
    all_goals
      clear h
      go_enter Tryd.func35, Tryd.ntmps35
      go_wp2_with fail
      go_ret
      exact ⟨rfl, rfl⟩

/-- The document's letter: of a quote and a backslash themselves. -/
def letF (r : Nat) : Nat := if r = 39 ∨ r = 92 then r else escF r

set_option maxRecDepth 100000 in
theorem letter_any (r : Nat) (w : World) : Calls Tryd.prog 41 #[.int .i32 r] w fun e w' => e = .returned (.int .i32 (letF r)) ∧ w' = w := by
  by_cases hq : r = 39 ∨ r = 92
  · rcases hq with rfl | rfl
    all_goals
      go_enter Tryd.func41, Tryd.ntmps41
      go_wp2_with fail
      go_ret
      exact ⟨rfl, rfl⟩
  · have hl : letF r = escF r := by simp [letF, hq]
    rw [hl]
    clear hl
    have q1 : ((r : Int) == 39) = false := by simp; omega
    have q2 : ((r : Int) == 92) = false := by simp; omega
    by_cases h : escF r = 0
    · obtain ⟨h1, h2, h3, h4, h5, h6, h7, h8⟩ := escF_none h
      rw [h]
      clear h
      have e1 : ((r : Int) == 8) = false := by simp; omega
      have e2 : ((r : Int) == 9) = false := by simp; omega
      have e3 : ((r : Int) == 10) = false := by simp; omega
      have e4 : ((r : Int) == 11) = false := by simp; omega
      have e5 : ((r : Int) == 12) = false := by simp; omega
      have e6 : ((r : Int) == 13) = false := by simp; omega
      have e7 : ((r : Int) == 27) = false := by simp; omega
      have e8 : ((r : Int) == 127) = false := by simp; omega
      clear h1 h2 h3 h4 h5 h6 h7 h8 hq
      go_enter Tryd.func41, Tryd.ntmps41
      go_wp2_with fail
      go_ret
      exact ⟨rfl, rfl⟩
    · clear q1 q2 hq
      rcases escF_cases r h with rfl | rfl | rfl | rfl | rfl | rfl | rfl | rfl
      all_goals
        clear h
        go_enter Tryd.func41, Tryd.ntmps41
        go_wp2_with fail
        go_ret
        exact ⟨rfl, rfl⟩

/-- The table's cell for 16. -/
def Tz16 (w : World) : Prop := w.cell? ⟨5, 15, none⟩ = some (.int .u8 4)

theorem tz_and : bits BinOp.and IntKind.u64 16 (IntKind.u64.wrap (-16)) = 16 := by decide +kernel
theorem tz_mul : IntKind.u64.wrap (16 * 285870213051353865) = 4573923408821661840 := by decide +kernel

set_option maxRecDepth 100000 in
theorem tz16 (w : World) (hT : Tz16 w) : Calls Tryd.prog 84 #[.int .u64 16] w fun e w' => e = .returned (.int .i64 4) ∧ w' = w := by
  have h1 := tz_and
  have h2 := tz_mul
  have h3 : w.cell? ⟨5, 15, none⟩ = some (.int .u8 4) := hT
  clear hT
  go_enter Tryd.func84, Tryd.ntmps84
  go_wp2
  go_ret
  exact ⟨rfl, rfl⟩

set_option maxRecDepth 100000 in
theorem pow16 (w : World) : Calls Tryd.prog 83 #[.int .i64 16] w fun e w' => e = .returned (.bool true) ∧ w' = w := by
  go_enter Tryd.func83, Tryd.ntmps83
  go_wp2
  go_ret
  exact ⟨rfl, rfl⟩

theorem low4 (r : Nat) (h : r < 256) : bits BinOp.and IntKind.u64 (r : Int) 15 = ((r % 16 : Nat) : Int) := by
  have : ∀ r : Fin 256, bits BinOp.and IntKind.u64 ((r.val : Nat) : Int) 15 = ((r.val % 16 : Nat) : Int) := by decide +kernel
  exact this ⟨r, h⟩

def digs : ByteArray := ⟨#[48, 49, 50, 51, 52, 53, 54, 55, 56, 57, 97, 98, 99, 100, 101, 102, 103, 104, 105, 106, 107, 108, 109, 110, 111, 112, 113, 114, 115, 116, 117, 118, 119, 120, 121, 122]⟩
theorem digs_fin : ∀ n : Fin 16, digs[n.val]'(by show n.val < 36; omega) = hexD n.val := by decide
theorem digs_at (n : Nat) (h : n < 16) : digs[n]'(by show n < 36; omega) = hexD n := digs_fin ⟨n, h⟩

theorem tz_alloc {w : World} (h : Tz16 w) (o : Obj) : Tz16 (w.alloc o) := by
  unfold Tz16 at h ⊢
  rw [((Below.refl w.heap.size w).alloc (Nat.le_refl _) _).cell (p := ⟨5, 15, none⟩) (World.block_lt_of_cell? w _ h)]
  exact h

theorem conv_one (w : World) (x : UInt8) : (convert 51 9 (.slice (some ⟨w.heap.size, 64, none⟩) 1 1)).run Tryd.prog (w.alloc (.cells ((Array.replicate 65 (.int .u8 0)).setIfInBounds 64 (.int .u8 x.toNat)) 111)) = .ok (.string ⟨#[x]⟩) (w.alloc (.cells ((Array.replicate 65 (.int .u8 0)).setIfInBounds 64 (.int .u8 x.toNat)) 111)) := by
  have := run_convert_bytes_back (P := Tryd.prog) (w.alloc (.cells ((Array.replicate 65 (.int .u8 0)).setIfInBounds 64 (.int .u8 x.toNat)) 111)) 51 9 5 ⟨w.heap.size, 64, none⟩ 1 [x] Tryd.underlying51 Tryd.underlying5 Tryd.underlying9 (fun j hj => by
    obtain rfl : j = 0 := by simpa using hj
    rw [Addr.add_lit, blk_cell (heap_alloc_new w _)]
    simp)
  exact this

theorem conv_two (w : World) (x y : UInt8) : (convert 51 9 (.slice (some ⟨w.heap.size, 63, none⟩) 2 2)).run Tryd.prog (w.alloc (.cells (((Array.replicate 65 (.int .u8 0)).setIfInBounds 64 (.int .u8 y.toNat)).setIfInBounds 63 (.int .u8 x.toNat)) 111)) = .ok (.string ⟨#[x, y]⟩) (w.alloc (.cells (((Array.replicate 65 (.int .u8 0)).setIfInBounds 64 (.int .u8 y.toNat)).setIfInBounds 63 (.int .u8 x.toNat)) 111)) := by
  have := run_convert_bytes_back (P := Tryd.prog) (w.alloc (.cells (((Array.replicate 65 (.int .u8 0)).setIfInBounds 64 (.int .u8 y.toNat)).setIfInBounds 63 (.int .u8 x.toNat)) 111)) 51 9 5 ⟨w.heap.size, 63, none⟩ 2 [x, y] Tryd.underlying51 Tryd.underlying5 Tryd.underlying9 (fun j hj => by
    have hj' : j = 0 ∨ j = 1 := by simp at hj; omega
    rcases hj' with rfl | rfl
    · rw [Addr.add_lit, blk_cell (heap_alloc_new w _)]
      simp
    · rw [Addr.add_lit, blk_cell (heap_alloc_new w _)]
      simp)
  exact this

set_option maxHeartbeats 2000000 in
set_option maxRecDepth 100000 in
theorem fmt16_one (r : Nat) (hr : r < 16) (w : World) (hT : Tz16 w) : Calls Tryd.prog 70 #[.slice none 0 0, .int .u64 r, .int .i64 16, .bool false, .bool false] w fun e w' => e = .returned (.tuple #[.slice none 0 0, .string ⟨(hexL r).toArray⟩]) ∧ Below w.heap.size w w' := by
  have hF : hexL r = [digs[r]'(by show r < 36; omega)] := by
    unfold hexL
    rw [if_pos hr, digs_at r hr]
  have HF := Lib.hid hF
  clear hF
  have hc := conv_one w
  go_enter Tryd.func70, Tryd.ntmps70
  go_wp2_with fail
  refine (pow16 _).mono ?_
  rintro e w1 ⟨rfl, rfl⟩
  go_wp2_with fail
  refine (tz16 _ (tz_alloc hT _)).mono ?_
  rintro e w2 ⟨rfl, rfl⟩
  go_wp2_with fail
  go_loopg [1, 13] 1 (fun _ s1 s13 wr => s1 = .int .u64 r ∧ s13 = .int .i64 65 ∧ wr = w.alloc (.cells (Array.replicate 65 (.int .u8 0)) 111))
  case atStart => exact ⟨rfl, rfl, rfl⟩
  case round =>
    obtain ⟨rfl, rfl, rfl⟩ := hrel
    go_wp2_with fail
    go_ret2
    refine ⟨?_, (Below.refl _ _).alloc (Nat.le_refl _) _⟩
    rw [HF.out]
    rfl

set_option maxHeartbeats 2000000 in
set_option maxRecDepth 100000 in
theorem fmt16_two (r : Nat) (hr : 16 ≤ r) (hr2 : r < 256) (w : World) (hT : Tz16 w) : Calls Tryd.prog 70 #[.slice none 0 0, .int .u64 r, .int .i64 16, .bool false, .bool false] w fun e w' => e = .returned (.tuple #[.slice none 0 0, .string ⟨(hexL r).toArray⟩]) ∧ Below w.heap.size w w' := by
  have hF : hexL r = [digs[r / 16]'(by show r / 16 < 36; omega), digs[r % 16]'(by show r % 16 < 36; omega)] := by
    unfold hexL
    rw [if_neg (by omega), digs_at _ (by omega), digs_at _ (by omega)]
  have HF := Lib.hid hF
  have hl := low4 r hr2
  clear hF
  have hc := conv_two w
  have hb1 : r % 16 < 36 := by omega
  have hb2 : r / 16 < 36 := by omega
  go_enter Tryd.func70, Tryd.ntmps70
  go_wp2_with fail
  refine (pow16 _).mono ?_
  rintro e w1 ⟨rfl, rfl⟩
  go_wp2_with fail
  refine (tz16 _ (tz_alloc hT _)).mono ?_
  rintro e w2 ⟨rfl, rfl⟩
  go_wp2_with fail
  go_loopg [1, 13] 1 (fun g s1 s13 wr => (g = 1 ∧ s1 = .int .u64 r ∧ s13 = .int .i64 65 ∧ wr = w.alloc (.cells (Array.replicate 65 (.int .u8 0)) 111)) ∨ (g = 0 ∧ s1 = .int .u64 ((r / 16 : Nat) : Int) ∧ s13 = .int .i64 64 ∧ wr = w.alloc (.cells ((Array.replicate 65 (.int .u8 0)).setIfInBounds 64 (.int .u8 (digs[r % 16]'hb1).toNat)) 111)))
  case atStart => exact .inl ⟨rfl, rfl, rfl, rfl⟩
  case round =>
    rcases hrel with ⟨rfl, rfl, rfl, rfl⟩ | ⟨rfl, rfl, rfl, rfl⟩
    · go_wp2_with fail
      go_roundg 0
      case measure => omega
      case rel => exact .inr ⟨rfl, rfl, rfl, rfl⟩
    · have hlt : ((r / 16 : Nat) : Int) < 16 := by omega
      go_wp2_with fail
      go_ret2
      refine ⟨?_, (Below.refl _ _).alloc (Nat.le_refl _) _⟩
      rw [HF.out]
      rfl
end Go.Proofs.YtflbcijmfcmilaaDoor
