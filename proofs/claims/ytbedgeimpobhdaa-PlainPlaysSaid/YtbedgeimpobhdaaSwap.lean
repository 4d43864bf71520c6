/- Swap, Drop, Mark of the mailbox that scans from its head. -/
import Derived.Test.YtbedgeimpobhdaaWords
import Derived.Test.YtbedgeimpobhdaaDel
namespace Go.Proofs.Ytbedgeimpobhdaa
open Go.RowKit

theorem Swap_no (p : Nat) (room : Int) (at_ : Nat) (ex : Int) (l : List Int) (sl : Value) (w : World) (hb : Box w p room at_ ex l sl) (v : Value) (n : Nat) (xs : List Int) (hv : Rd w 1 v n (u64s xs)) (hn : n ≠ l.length) :
    Calls Try.prog 25 #[.pointer (some ⟨p, 0, none⟩), v] w fun e w' => e = .returned (.int .i64 1) ∧ w = w' := by
  obtain ⟨ao, cap, rfl, hcap, hmax⟩ := hb.own.shape
  obtain ⟨ao2, cap2, rfl, _, _⟩ := hv.shape
  have c1 := blk_cell hb.blk 1
  simp at c1
  have ht : ((n : Int) == (l.length : Int)) = false := by simp; omega
  have ht2 : ((n : Int) != (l.length : Int)) = true := by simp; omega
  go_enter Try.func25, Try.ntmps25
  go_wp2
  go_ret
  exact ⟨rfl, rfl⟩

set_option maxHeartbeats 800000 in
theorem Swap_yes (p : Nat) (room : Int) (at_ : Nat) (ex : Int) (l : List Int) (sl : Value) (w : World) (hb : Box w p room at_ ex l sl) (v : Value) (xs : List Int) (hv : Rd w 1 v l.length (u64s xs)) :
    Calls Try.prog 25 #[.pointer (some ⟨p, 0, none⟩), v] w fun e w' => e = .returned (.int .i64 0) ∧ BoxPost p room at_ ex xs sl w w' := by
  obtain ⟨i0, hinf, hz0, hz1, hz2⟩ := info_parts Try.info28
  have hsz : (Try.prog.info? 28).map (·.size) = some 1 := by rw [hinf]; simp [hz1]
  obtain ⟨ao, cap, rfl, hcap, hmax⟩ := hb.own.shape
  obtain ⟨ao2, cap2, rfl, _, _⟩ := hv.shape
  have HN := Lib.hid (show xs.length = l.length by have := hv.len; simpa [u64s] using this)
  have c1 := blk_cell hb.blk 1
  simp at c1
  have HZ := Lib.hid hsz
  clear hsz
  go_enter Try.func25, Try.ntmps25
  go_wp2_with (refine wpList_copy_sl (o := ⟨some 24, _, _, _, _, _⟩) rfl (.tmp 22) (.tmp 23) 22 22 rfl 28 Try.underlying22 HZ.out _ _ l.length _ (u64s xs) rfl rfl hb.own hv (u64s_one _) ?nx)
  case nx =>
  intro w1 hs hf
  have hb1 := hf.at hb.blk (fun e => hb.own.ne hb.blk (by decide) p e rfl)
  go_wp2_with fail
  go_ret
  exact ⟨rfl, _, ⟨hb1, by rw [HN.out]; exact hs⟩, hf.mono fun q hq => Or.inr hq, fun _ h => .inl h⟩

theorem Drop_any (p : Nat) (room : Int) (at_ : Nat) (ex : Int) (l : List Int) (sl : Value) (w : World) (hb : Box w p room at_ ex l sl) :
    Calls Try.prog 21 #[.pointer (some ⟨p, 0, none⟩)] w fun e w' => e = .returned (.tuple #[]) ∧ BoxPost p room 0 ex [] sl w w' := by
  have c1 := blk_cell hb.blk 1
  have f1 := blk_free hb.blk 1
  have c2 := blk_cell hb.blk 2
  have f2 := blk_free hb.blk 2
  simp at c1 c2
  go_enter Try.func21, Try.ntmps21
  go_wp2
  go_end0
  refine ⟨rfl, .slice none 0 0, ⟨?_, Sl.nil _ _ _⟩, ((Fr.refl _ _).setCell (Or.inl (Or.inl rfl)) _).setCell (Or.inl (Or.inl rfl)) _, fun k hk => ?_⟩
  · rw [blk_set (blk_set hb.blk 1 _) 2]; simp
  · rcases hk with rfl | hk
    · exact .inl (.inl rfl)
    · simp [Value.ownBlock] at hk

theorem Mark_ok (p : Addr) (n : Int) (w : World) (h1 : 1 ≤ n) (h2 : n ≤ 281474976710656) : Calls Try.prog 22 #[.pointer (some p), .int .i64 n] w fun e w' => e = .returned (.int .i64 0) ∧ w = w' := by
  go_enter Try.func22, Try.ntmps22
  go_wp2
  go_ret
  exact ⟨rfl, rfl⟩

theorem Mark_bad (p : Addr) (n : Int) (w : World) (h : n < 1 ∨ 281474976710656 < n) : Calls Try.prog 22 #[.pointer (some p), .int .i64 n] w fun e w' => e = .returned (.int .i64 1) ∧ w = w' := by
  rcases h with h | h
  · go_enter Try.func22, Try.ntmps22
    go_wp2
    go_ret
    exact ⟨rfl, rfl⟩
  · have h' : ¬ n < 1 := by omega
    go_enter Try.func22, Try.ntmps22
    go_wp2
    go_ret
    exact ⟨rfl, rfl⟩

theorem Use_no (p : Option Addr) (n : Int) (w : World) : Calls Try.prog 23 #[.pointer p, .int .i64 n] w fun e w' => e = .returned (.bool false) ∧ w = w' := by
  go_enter Try.func23, Try.ntmps23
  go_wp2
  go_ret
  exact ⟨rfl, rfl⟩

theorem Forget_no (p : Option Addr) (n : Int) (w : World) : Calls Try.prog 24 #[.pointer p, .int .i64 n] w fun e w' => e = .returned (.bool false) ∧ w = w' := by
  go_enter Try.func24, Try.ntmps24
  go_wp2
  go_ret
  exact ⟨rfl, rfl⟩
end Go.Proofs.Ytbedgeimpobhdaa
