/- The queue: its block, its map, its four lists. -/
import Derived.Test.YtjdinopiipmojaaMp
import Derived.Deep.LoopGhost
import Derived.WalkSpells
namespace Go.Proofs.Ytjdinopiipmojaa
open Go.RowKit

abbrev i64s (l : List Int) : List Value := l.map (Value.int .i64)

theorem i64s_one (l : List Int) : ∀ u ∈ i64s l, u.oneCell' = true := ints_oneCell .i64 l

structure Qb (w : World) (p bm : Nat) (vs : Int → Value) (c : Int) (L : Int → List Int) : Prop where
  blk : w.heap[p]? = some (.cells #[.map (some bm), .int .i64 c] 56 (0, 0))
  mp : Mp w bm vs
  own : ∀ k, 1 ≤ k → k ≤ 4 → Sl w 2 1 (vs k) (L k).length (i64s (L k))
  nem : ∀ k, 1 ≤ k → k ≤ 4 → (vs k).ownBlock ≠ some bm
  dis : ∀ j k, 1 ≤ j → j ≤ 4 → 1 ≤ k → k ≤ 4 → j ≠ k → ∀ b, (vs j).ownBlock = some b → (vs k).ownBlock ≠ some b

def bf (p bm : Nat) (vs : Int → Value) (k : Nat) : Prop := k = p ∨ k = bm ∨ ∃ j, 1 ≤ j ∧ j ≤ 4 ∧ (vs j).ownBlock = some k

theorem Qb.ne {w : World} {p bm : Nat} {vs : Int → Value} {c : Int} {L : Int → List Int} (h : Qb w p bm vs c L) : p ≠ bm := h.mp.ne h.blk

theorem Qb.nep {w : World} {p bm : Nat} {vs : Int → Value} {c : Int} {L : Int → List Int} (h : Qb w p bm vs c L) {k : Int} (h1 : 1 ≤ k) (h4 : k ≤ 4) : (vs k).ownBlock ≠ some p :=
  fun e => (h.own k h1 h4).ne h.blk (by decide) p e rfl

theorem Qb.lt {w : World} {p bm : Nat} {vs : Int → Value} {c : Int} {L : Int → List Int} (h : Qb w p bm vs c L) : ∀ k, bf p bm vs k → k < w.heap.size := by
  rintro k (rfl | rfl | ⟨j, j1, j4, hj⟩)
  · exact blk_lt h.blk
  · exact h.mp.lt
  · exact (h.own j j1 j4).lt k hj

theorem Qb.keep {w w' : World} {p bm : Nat} {vs : Int → Value} {c : Int} {L : Int → List Int} (h : Qb w p bm vs c L) {F : Nat → Prop} (hf : Fr F w w') (hF : ∀ k, bf p bm vs k → ¬ F k) : Qb w' p bm vs c L :=
  ⟨hf.at h.blk (hF p (.inl rfl)), h.mp.keep (hf.block bm h.mp.lt (hF bm (.inr (.inl rfl)))), fun k k1 k4 => hf.sl (h.own k k1 k4) (fun b hb => hF b (.inr (.inr ⟨k, k1, k4, hb⟩))), h.nem, h.dis⟩

theorem Qb.drewN {w : World} {p bm : Nat} {vs : Int → Value} {c : Int} {L : Int → List Int} (h : Qb w p bm vs c L) (n : Nat) : Qb (w.drewN n) p bm vs c L :=
  h.keep ((Fr.refl (fun _ => False) w).drewN n) (fun _ _ h => h)

def QPost (p bm : Nat) (vs : Int → Value) (c' : Int) (L' : Int → List Int) (w w' : World) : Prop :=
  ∃ vs', Qb w' p bm vs' c' L' ∧ Fr (bf p bm vs) w w' ∧ ∀ k, bf p bm vs' k → bf p bm vs k ∨ w.heap.size ≤ k

def setL (L : Int → List Int) (k : Int) (l : List Int) : Int → List Int := fun j => if j = k then l else L j

/-- sched.New -/
theorem New_any (w : World) : Calls Try.prog 8 #[] w fun e w' => e = .returned (.pointer (some ⟨w.heap.size + 1, 0, none⟩)) ∧
    Qb w' (w.heap.size + 1) w.heap.size (fun _ => .slice none 0 0) 0 (fun _ => []) ∧ Below w.heap.size w w' := by
  have hmm := @run_makeMap Try.prog
  go_enter Try.func8, Try.ntmps8
  go_wp2_with fail
  go_ret
  have hlt := heap_alloc_new (w.alloc (.map #[] 0)) (.cells #[.map (some w.heap.size), .int .i64 0] 56)
  refine ⟨rfl, ⟨by simpa using hlt, (Mp.made w).keep ?_, fun k _ _ => Sl.nil _ _ _, fun k _ _ => by simp [Value.ownBlock], fun j k _ _ _ _ _ b hb => by simp [Value.ownBlock] at hb⟩, ((Below.refl _ _).alloc (Nat.le_refl _) _).alloc (by simp) _⟩
  have hne : w.heap.size < (w.alloc (.map #[] 0)).heap.size := by simp
  rw [Below.heap_alloc _ _ _ hne]

def FindPost (L : Int → List Int) (pid : Int) (k i : Int) : Prop :=
  (k = 0 ∧ i = 0 ∧ ∀ j, 1 ≤ j → j ≤ 4 → pid ∉ L j) ∨ (1 ≤ k ∧ k ≤ 4 ∧ 0 ≤ i ∧ (L k)[i.toNat]? = some pid)

set_option maxHeartbeats 800000 in
theorem find_any (p bm : Nat) (vs : Int → Value) (c : Int) (L : Int → List Int) (pid : Int) (w : World) (hq : Qb w p bm vs c L) :
    Calls Try.prog 29 #[.pointer (some ⟨p, 0, none⟩), .int .i64 pid] w fun e w' => ∃ k i, e = .returned (.tuple #[.int .i64 k, .int .i64 i]) ∧ FindPost L pid k i ∧ w' = w := by
  have c0 := blk_cell hq.blk 0
  simp at c0
  go_enter Try.func29, Try.ntmps29
  go_wp2_with fail
  go_step3
  go_wp2_with fail
  go_step3
  go_wp2_with fail
  go_loopg [6, 7, 8] 4 (fun g s6 s7 s8 wr => ∃ k : Nat, k + g = 4 ∧ s6 = .int .i64 0 ∧ s7 = .int .i64 0 ∧ s8 = .int .i64 ((k : Int) + 1) ∧ wr = w ∧ ∀ j : Int, 1 ≤ j → j ≤ k → pid ∉ L j)
  case atStart => exact ⟨0, rfl, rfl, rfl, rfl, rfl, fun j h1 h2 => by omega⟩
  case round =>
    obtain ⟨k, hk, rfl, rfl, rfl, rfl, hno⟩ := hrel
    cases gk with
    | zero =>
      obtain rfl : k = 4 := by omega
      go_wp2_with fail
      go_ret2
      exact ⟨0, 0, rfl, .inl ⟨rfl, rfl, fun j h1 h4 => hno j h1 (by omega)⟩, rfl⟩
    | succ g =>
      have hs := hq.own ((k : Int) + 1) (by omega) (by omega)
      have hlk := hq.mp.look ((k : Int) + 1) (by omega) (by omega)
      obtain ⟨ao, cap, hvs, hcap, hmax⟩ := hs.shape
      unfold maxLen at hmax
      rw [hvs] at hlk hs
      have HN := Lib.hid hno
      clear hno
      obtain ⟨l, hl⟩ : ∃ l, L ((k : Int) + 1) = l := ⟨_, rfl⟩
      rw [hl] at hs hcap hlk
      have HL := Lib.hid hl
      clear hl
      go_wp2_with fail
      go_loopg [6, 7, 22] l.length (fun g' s6 s7 s22 wx => ∃ i : Nat, i + g' = l.length ∧ s6 = .int .i64 0 ∧ s7 = .int .i64 0 ∧ s22 = .int .i64 i ∧ wx = wr ∧ pid ∉ l.take i)
      case atStart => exact ⟨0, by omega, rfl, rfl, rfl, rfl, by simp⟩
      case round =>
        obtain ⟨i, hi, rfl, rfl, rfl, rfl, hni⟩ := hrel
        have HI := Lib.hid hni
        clear hni
        cases gk with
        | zero =>
          obtain rfl : i = l.length := by omega
          go_wp2_with fail
          go_roundg g
          case measure => omega
          case rel =>
            refine ⟨k + 1, by omega, rfl, rfl, by go_num, rfl, fun j h1 h2 => ?_⟩
            by_cases hj : j = (k : Int) + 1
            · subst hj; rw [HL.out]; simpa using HI.out
            · exact HN.out j h1 (by omega)
        | succ g' =>
          obtain ⟨x, hx⟩ : ∃ x, l[i]? = some x := ⟨l[i]'(by omega), List.getElem?_eq_getElem _⟩
          obtain ⟨b, off, cap', hv', _, _, hcell⟩ := hs.rd.at (by omega)
          simp at hv'
          obtain ⟨rfl, rfl⟩ := hv'
          have hck := hcell i (by omega)
          rw [show (i64s l)[i]? = some (.int .i64 x) by simp [hx]] at hck
          clear hcell
          have HX := Lib.hid hx
          clear hx
          by_cases hxp : x = pid
          · subst hxp
            go_wp2_with fail
            rw [Exit.noGoto_ret]
            go_ret2
            exact ⟨(k : Int) + 1, (i : Int), rfl, .inr ⟨by omega, by omega, by omega, by rw [HL.out]; simpa using HX.out⟩, rfl⟩
          · go_wp2_with fail
            go_roundg g'
            case measure => omega
            case rel =>
              refine ⟨i + 1, by omega, rfl, rfl, by go_num, rfl, ?_⟩
              rw [List.take_add_one, HX.out]
              simp
              exact ⟨HI.out, fun h => hxp h.symm⟩
end Go.Proofs.Ytjdinopiipmojaa
