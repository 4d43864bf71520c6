/- Lists of words: a copy; are two alike? -/
import Derived.Test.YtbedgeimpobhdaaBox
import Derived.WalkSpells
namespace Go.Proofs.Ytbedgeimpobhdaa
open Go.RowKit

def u64s (l : List Int) : List Value := l.map (Value.int .u64)
theorem u64s_one (l : List Int) : ∀ u ∈ u64s l, u.oneCell' = true := ints_oneCell .u64 l

/-- slices.Clone: a new slice with the same elements. -/
theorem Clone_any (v : Value) (n : Nat) (l : List Int) (w : World) (h : Rd w 1 v n (u64s l)) (hn : n ≤ 1000) :
    Calls Try.prog 35 #[v] w fun e w' => ∃ v', e = .returned v' ∧ Sl w' 28 1 v' n (u64s l) ∧ Fr (fun _ => False) w w' ∧ ∀ k, v'.ownBlock = some k → w.heap.size ≤ k := by
  obtain ⟨i0, hinf, hz0, hz1, hz2⟩ := info_parts Try.info28
  obtain ⟨ao, cap, rfl, h0, h2, h3, h4, h5⟩ := id h
  have hnil := fun (w : World) (a : Option Addr) (n c n' c' : Nat) => Lib.run_eql_slice_nil (P := Try.prog) w 22 28 a n c n' c' Try.underlying22
  cases ao with
  | none =>
    obtain rfl := h4 rfl
    obtain rfl : n = 0 := by omega
    have hx : u64s l = [] := List.eq_nil_of_length_eq_zero (by simpa using h0)
    rw [hx]
    clear h h0 h5 hx
    go_enter Try.func35, Try.ntmps35
    go_wp2
    go_ret
    exact ⟨_, rfl, Sl.nil _ _ _, Fr.refl _ _, by simp [Value.ownBlock]⟩
  | some a =>
    clear h0 h4 h5
    go_enter Try.func35, Try.ntmps35
    go_wp2_with (at_builtin; go_loud (refine wpList_append_sl_rd rfl (.tmp 5) (.tmp 6) 22 rfl 28 i0 (.int .u64 0) 1 8 Try.underlying22 hinf hz0 hz1 hz2 rfl (by decide) (.slice (some ⟨w.heap.size, 0, none⟩) 0 0) 0 [] rfl ?own _ n (u64s l) rfl (h.below (Nat.le_refl _) ((Below.refl _ _).alloc (Nat.le_refl _) _)) (u64s_one l) ?b1 ?b2 ?next))
    case own => exact ⟨_, 0, rfl, by simp, by omega, by unfold maxLen; omega, .inr ⟨w.heap.size, 0, #[], rfl, heap_alloc_new w _, by simp, by simp⟩⟩
    case b1 => unfold maxLen; omega
    case b2 => omega
    case next =>
      intro v' w1 hs hf hv
      go_wp2
      go_ret
      have hf' : Fr (fun _ => False) w w1 := ((Fr.refl (fun _ => False) w).alloc (.cells #[] 28)).trans' hf (fun i hi => by simp [Value.ownBlock] at hi; exact .inr (by omega))
      refine ⟨v', rfl, by simpa using hs, hf', fun k hk => ?_⟩
      rcases hv with hv | hv
      · rw [hv] at hk; simp [Value.ownBlock] at hk; omega
      · rw [hv] at hk; simp at hk; omega

theorem u64s_at {l : List Int} {k : Nat} {x : Int} (h : l[k]? = some x) : (u64s l)[k]? = some (.int .u64 x) := by simp [u64s, h]

/-- Are two lists of words alike? -/
theorem Same_no (v1 v2 : Value) (n1 n2 : Nat) (l1 l2 : List Int) (w : World) (h1 : Rd w 1 v1 n1 (u64s l1)) (h2 : Rd w 1 v2 n2 (u64s l2)) (hne : n1 ≠ n2) :
    Calls Try.prog 15 #[v1, v2] w fun e w' => e = .returned (.bool false) ∧ w = w' := by
  obtain ⟨ao1, cap1, rfl, _, _⟩ := h1.shape
  obtain ⟨ao2, cap2, rfl, _, _⟩ := h2.shape
  have hne' : ((n1 : Int) == n2) = false := by simp; omega
  go_enter Try.func15, Try.ntmps15
  go_wp2
  go_ret
  exact ⟨rfl, rfl⟩

set_option maxHeartbeats 800000 in
theorem Same_yes (v1 v2 : Value) (n : Nat) (l : List Int) (w : World) (h1 : Rd w 1 v1 n (u64s l)) (h2 : Rd w 1 v2 n (u64s l)) :
    Calls Try.prog 15 #[v1, v2] w fun e w' => e = .returned (.bool true) ∧ ∃ q, w' = w.drewN q := by
  obtain ⟨ao1, cap1, rfl, hc1, hm1⟩ := h1.shape
  obtain ⟨ao2, cap2, rfl, hc2, hm2⟩ := h2.shape
  have hl : l.length = n := by have := h1.len; simpa [u64s] using this
  have HL := Lib.hid hl
  clear hl
  unfold maxLen at hm1 hm2
  go_enter Try.func15, Try.ntmps15
  go_wp2
  go_loopw [5] (fun s5 wr => ∃ k : Nat, k ≤ n ∧ s5 = .int .i64 k ∧ ∃ q, wr = w.drewN q) (fun s5 _ => n - (intOf s5).toNat)
  case atStart => exact ⟨0, by omega, rfl, 0, rfl⟩
  case round =>
    obtain ⟨k, hk, rfl, q, rfl⟩ := hrel
    by_cases hlt : k < n
    · obtain ⟨g1, o1, c1, hv1, _, _, hcell1⟩ := h1.at (by omega)
      obtain ⟨g2, o2, c2, hv2, _, _, hcell2⟩ := h2.at (by omega)
      simp at hv1 hv2
      obtain ⟨rfl, rfl⟩ := hv1
      obtain ⟨rfl, rfl⟩ := hv2
      obtain ⟨x, hx⟩ : ∃ x, l[k]? = some x := ⟨l[k]'(by have := HL.out; omega), List.getElem?_eq_getElem _⟩
      have e1 := hcell1 k (by omega)
      have e2 := hcell2 k (by omega)
      rw [u64s_at hx] at e1 e2
      clear hcell1 hcell2 hx
      go_wp2_with fail
      go_quiet (fail)
      go_wp2
      go_roundw
      case rel => exact ⟨k + 1, by omega, by go_num, _, rfl⟩
      case measure => simp [intOf]; omega
    · obtain rfl : k = n := by omega
      go_wp2
      go_ret
      exact ⟨rfl, _, rfl⟩
end Go.Proofs.Ytbedgeimpobhdaa
