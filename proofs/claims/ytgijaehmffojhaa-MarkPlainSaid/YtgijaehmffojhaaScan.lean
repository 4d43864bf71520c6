/- The scans of MarkPlain: each goes on until a word is met, or none is left. -/
import Derived.Test.YtgijaehmffojhaaPall
namespace Go.Proofs.Ytgijaehmffojhaa
open Go.RowKit

/-- m is not among the first k. -/
def NoneTo (l : List Int) (m : Int) (k : Nat) : Prop := ∀ j, j < k → l[j]? ≠ some m

theorem NoneTo.succ {l : List Int} {m x : Int} {k : Nat} (h : NoneTo l m k) (hx : l[k]? = some x) (hne : x ≠ m) : NoneTo l m (k + 1) := by
  intro j hj e
  by_cases hjk : j = k
  · subst hjk
    rw [hx] at e
    exact hne (by simpa using e)
  · exact h j (by omega) e

set_option maxHeartbeats 1600000 in
theorem plain_scan (p : Nat) (ex : Int) (l : List Int) (sl : Value) (m : Int) (w : World) (hb : Plain.Box w p 32 0 ex l sl) (hl : l.length ≤ 32) (h0 : 0 ≤ ex) (h1 : ex ≤ 1152921504606846976) :
    Calls Try.prog 33 #[.pointer (some ⟨p, 0, none⟩), .int .u64 m] w fun e w' =>
      (∃ k, l[k]? = some m ∧ NoneTo l m k ∧ e = .returned (.tuple #[.int .u64 m, .bool true]) ∧ Plain.BoxPost p 32 (k + 1) (ex + ((k + 1 : Nat) : Int)) l sl w w') ∨
      (NoneTo l m l.length ∧ e = .returned (.tuple #[.int .u64 0, .bool false]) ∧ Plain.BoxPost p 32 l.length (ex + (l.length : Int)) l sl w w') := by
  go_enter Try.func33, Try.ntmps33
  go_wp2_with fail
  go_loopg [6, 7, 8] 33 (fun g s6 s7 s8 wr => ∃ i : Nat, i + g = 33 ∧ i ≤ l.length ∧ s6 = .int .i64 i ∧ NoneTo l m i ∧ Plain.BoxPost p 32 i (ex + (i : Int)) l sl w wr)
  case atStart => exact ⟨0, by omega, by omega, rfl, (fun j hj => absurd hj (by omega)), by rw [show ex + ((0 : Nat) : Int) = ex by omega]; exact ⟨sl, hb, Fr.refl _ _, fun _ h => .inl h⟩⟩
  case round =>
    obtain ⟨i, hi, hil, rfl, hno, sl1, hb1, hf1, hg1⟩ := hrel
    cases gk with
    | zero => omega
    | succ g =>
      by_cases hlt : i < l.length
      · obtain ⟨x, hx⟩ : ∃ x, l[i]? = some x := ⟨l[i], List.getElem?_eq_getElem _⟩
        go_wp2_with fail
        refine (Plain.Next_more p 32 i _ l sl1 _ hb1 x hx (by omega)).mono ?_
        rintro e w2 ⟨rfl, hp⟩
        rw [show wrap64 (ex + (i : Int) + 1) = ex + ((i + 1 : Nat) : Int) by unfold wrap64; omega] at hp
        have hp2 := hp.trans hf1 hg1
        clear hp hb1 hf1 hg1
        have HX := Lib.hid hx
        clear hx
        by_cases hxm : x = m
        · subst hxm
          go_wp2_with fail
          go_ret2
          exact .inl ⟨i, HX.out, hno, rfl, hp2⟩
        · have hxm' : (x == m) = false := by simpa using hxm
          have HN := Lib.hid (hno.succ HX.out hxm)
          clear hxm hno
          go_wp2_with fail
          go_roundg g
          case measure => omega
          case rel => exact ⟨i + 1, by omega, by omega, by go_num, HN.out, hp2⟩
      · obtain rfl : i = l.length := by omega
        go_wp2_with fail
        refine (Plain.Next_none p 32 _ _ l sl1 _ hb1 (Nat.le_refl _)).mono ?_
        rintro e w2 ⟨rfl, hp⟩
        have hp2 := hp.trans hf1 hg1
        clear hp hb1 hf1 hg1
        go_wp2_with fail
        go_ret2
        exact .inr ⟨hno, rfl, hp2⟩

theorem MPost.trans {p : Nat} {ns : List (Nat × Int)} {mv mv1 : Value} {X Y : Bx} {w w1 w2 : World} (hf : Fr (mf p ns mv) w w1) (hg : ∀ k, mf p X.ns mv1 k → mf p ns mv k ∨ w.heap.size ≤ k)
    (h : MPost p X.ns mv1 Y w1 w2) : MPost p ns mv Y w w2 := by
  obtain ⟨mv', hb, hf', hg'⟩ := h
  refine ⟨mv', hb, hf.trans' hf' hg, fun k hk => ?_⟩
  rcases hg' k hk with h | h
  · exact hg k h
  · exact .inr (Nat.le_trans hf.size h)

theorem cur0 {ns : List (Nat × Int)} {room : Int} {on : Bool} {i : Nat} {ms : List (Int × Nat)} {ex : Int} : Bx.cur ⟨ns, room, on, i, 0, ms, ex⟩ = i := by show (if i ≠ 0 then i else 0) = i; split <;> omega

set_option maxHeartbeats 1600000 in
theorem marked_scan (p : Nat) (ex : Int) (ns : List (Nat × Int)) (l : List Int) (mv : Value) (on : Bool) (c : Nat) (m : Int) (w : World) (hb : Mb w p mv ⟨ns, 32, on, c, 0, [], ex⟩) (hn : Hid (ns.map (·.2) = l)) (hl : l.length ≤ 32) (hc : c ≤ l.length) (hno : NoneTo l m c) (h0 : 0 ≤ ex) (h1 : ex ≤ 576460752303423488) :
    Calls Try.prog 34 #[.pointer (some ⟨p, 0, none⟩), .int .u64 m] w fun e w' =>
      (∃ k, c ≤ k ∧ l[k]? = some m ∧ NoneTo l m k ∧ e = .returned (.tuple #[.int .u64 m, .bool true]) ∧ MPost p ns mv ⟨ns, 32, true, k + 1, 0, [], ex + ((k + 1 - c : Nat) : Int)⟩ w w') ∨
      (NoneTo l m l.length ∧ e = .returned (.tuple #[.int .u64 0, .bool false]) ∧ MPost p ns mv ⟨ns, 32, true, l.length, 0, [], ex + ((l.length - c : Nat) : Int)⟩ w w') := by
  have hnl : ns.length = l.length := by rw [← hn.out]; simp
  go_enter Try.func34, Try.ntmps34
  go_wp2_with fail
  go_loopg [6, 7, 8] 33 (fun g s6 s7 s8 wr => ∃ i : Nat, i + g = 33 ∧ i + c ≤ l.length ∧ s6 = .int .i64 i ∧ NoneTo l m (i + c) ∧ ∃ on, MPost p ns mv ⟨ns, 32, on, i + c, 0, [], ex + (i : Int)⟩ w wr)
  case atStart => exact ⟨0, by omega, by omega, rfl, by simpa using hno, on, by rw [show ex + ((0 : Nat) : Int) = ex by omega, Nat.zero_add]; exact ⟨mv, hb, Fr.refl _ _, fun _ h => .inl h⟩⟩
  case round =>
    clear hno hb
    obtain ⟨i, hi, hil, rfl, hno, on1, mv1, hb1, hf1, hg1⟩ := hrel
    cases gk with
    | zero => omega
    | succ g =>
      go_wp2_with fail
      refine (Next_any' p mv1 _ _ hb1 (by show (0 : Int) ≤ ex + (i : Int); omega) (by show ex + (i : Int) ≤ _; omega)).mono ?_
      rintro e w2 (⟨b, x, hx, rfl, hp⟩ | ⟨hx, rfl, hp⟩)
      · rw [cur0] at hx
        have hx' : l[i + c]? = some x := by rw [← hn.out, List.getElem?_map, hx]; rfl
        have hlt := (List.getElem?_eq_some_iff.1 hx').1
        have hp1 : MPost p ns mv1 ⟨ns, 32, true, i + 1 + c, 0, [], ex + ((i + 1 : Nat) : Int)⟩ wr w2 := by
          have := hp
          unfold Bx.told at this
          rw [cur0] at this
          rw [show i + 1 + c = i + c + 1 by omega, show ex + ((i + 1 : Nat) : Int) = ex + (i : Int) + 1 by omega]
          exact this
        have hp2 := MPost.trans (X := ⟨ns, 32, on1, i + c, 0, [], ex + (i : Int)⟩) hf1 hg1 hp1
        clear hp hp1 hb1 hf1 hg1 hx
        have HX := Lib.hid hx'
        clear hx'
        by_cases hxm : x = m
        · subst hxm
          go_wp2_with fail
          go_ret2
          exact .inl ⟨i + c, by omega, HX.out, hno, rfl, by rw [show i + c + 1 = i + 1 + c by omega, show i + 1 + c - c = i + 1 by omega]; exact hp2⟩
        · have hxm' : (x == m) = false := by simpa using hxm
          have HN := Lib.hid (hno.succ HX.out hxm)
          clear hxm hno
          go_wp2_with fail
          go_roundg g
          case measure => omega
          case rel => exact ⟨i + 1, by omega, by omega, by go_num, by rw [show i + 1 + c = i + c + 1 by omega]; exact HN.out, true, hp2⟩
      · rw [cur0] at hx
        have hx' : ns.length ≤ i + c := hx
        have hic : i + c = l.length := by omega
        have hp2 := MPost.trans (X := ⟨ns, 32, on1, i + c, 0, [], ex + (i : Int)⟩) hf1 hg1 hp
        have hp3 : MPost p ns mv ⟨ns, 32, true, l.length, 0, [], ex + ((l.length - c : Nat) : Int)⟩ w w2 := by
          have := hp2
          unfold Bx.going at this
          rw [← hic, show i + c - c = i by omega]
          exact this
        have HN : Hid (NoneTo l m l.length) := by rw [← hic]; exact hno
        clear hp hp2 hb1 hf1 hg1 hx hx' hic hno
        go_wp2_with fail
        go_ret2
        exact .inr ⟨HN.out, rfl, hp3⟩
end Go.Proofs.Ytgijaehmffojhaa
