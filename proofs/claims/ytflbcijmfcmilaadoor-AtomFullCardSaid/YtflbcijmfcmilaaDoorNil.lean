/- AtomNil: a nil table. -/
import Derived.Test.YtflbcijmfcmilaaDoorWhole2
namespace Go.Proofs.YtflbcijmfcmilaaDoor
open Go.RowKit Go.Shelf

theorem whole_nil (pb : Nat) (w : World) (hpb : w.heap[pb]? = some (.cells #[.slice none 0 0] 48 (0, 0))) : Calls Tryd.prog 30 #[.pointer none, .pointer (some ⟨pb, 0, none⟩)] w fun e w' => e = .returned (.bool true) ∧ Below w.heap.size w w' :=
  callsIn_wide.1 (whole_gen 0 none (fun _ => True) pb (.slice none 0 0) [] (by simp) w (fun _ _ => trivial) (fun W _ => len_nil W) hpb (Sl.nil _ _ _) (fun W0 _ hn _ => nil_seq Fence.wide trivial rfl _ _ _ _ W0 hn))

theorem find_nil (s : ByteArray) (w : World) : Calls Tryd.prog 28 #[.pointer none, .string s] w fun e w' => e = .returned (.tuple #[.int .i64 0, .int .i64 2]) ∧ w' = w := by
  go_enter Tryd.func28, Tryd.ntmps28
  go_wp2
  go_ret2
  exact ⟨rfl, rfl⟩

theorem put_nil (s : ByteArray) (w : World) : Calls Tryd.prog 26 #[.pointer none, .string s] w fun e w' => e = .returned (.tuple #[.int .i64 0, .int .i64 2]) ∧ w' = w := by
  go_enter Tryd.func26, Tryd.ntmps26
  go_wp2_with fail
  refine (find_nil s _).mono ?_
  rintro e w1 ⟨rfl, rfl⟩
  go_wp2_with fail
  go_ret2
  exact ⟨rfl, rfl⟩

theorem name_nil (n : Int) (w : World) : Calls Tryd.prog 29 #[.pointer none, .int .i64 n] w fun e w' => e = .returned (.tuple #[.string ⟨#[]⟩, .int .i64 2]) ∧ w' = w := by
  go_enter Tryd.func29, Tryd.ntmps29
  go_wp2_with fail
  go_ret2
  exact ⟨rfl, rfl⟩

set_option maxHeartbeats 1600000 in
set_option maxRecDepth 100000 in
theorem atomNil_walk (s : ByteArray) (n : Int) (w : World) : Calls Tryd.prog 9 #[.string s, .int .i64 n] w fun e w' => e = .returned (.bool true) ∧ Below w.heap.size w w' := by
  go_enter Tryd.func9, Tryd.ntmps9
  go_wp2_with fail
  refine (put_nil s _).mono ?_
  rintro e w1 ⟨rfl, rfl⟩
  go_wp2_with fail
  refine (find_nil s _).mono ?_
  rintro e w2 ⟨rfl, rfl⟩
  go_wp2_with fail
  refine (name_nil n _).mono ?_
  rintro e w3 ⟨rfl, rfl⟩
  go_wp2_with fail
  refine (whole_nil _ _ (heap_alloc_new _ _)).mono ?_
  rintro e w4 ⟨rfl, hb4⟩
  have hb : Below w3.heap.size w3 w4 := ((Below.refl _ w3).alloc (Nat.le_refl _) _).trans (hb4.mono (by simp))
  clear hb4
  go_wp2_with fail
  refine (len_nil _).mono ?_
  rintro e w5 ⟨rfl, rfl⟩
  go_wp2_with fail
  refine (awake_any _).mono ?_
  rintro e w6 ⟨rfl, hb6⟩
  go_wp2_with fail
  go_ret
  exact ⟨rfl, hb.trans (hb6.mono hb.size)⟩
end Go.Proofs.YtflbcijmfcmilaaDoor
