/- awake(): the first example; Count. -/
import Derived.Test.YtgijaehmffojhaaUse
namespace Go.Proofs.Ytgijaehmffojhaa
open Go.RowKit

/-- A mailbox that the call itself made. -/
structure MbIn (B : Nat) (w0 w : World) (p : Nat) (mv : Value) (X : Bx) : Prop where
  m : Mb w p mv X
  lies : ∀ k, mf p X.ns mv k → B ≤ k
  below : Below B w0 w
  size : B ≤ w.heap.size

theorem MbIn.step {B : Nat} {w0 w w' : World} {p : Nat} {mv : Value} {X Y : Bx} (h : MbIn B w0 w p mv X) (hp : MPost p X.ns mv Y w w') : ∃ mv', MbIn B w0 w' p mv' Y := by
  obtain ⟨mv', hb, hf, hg⟩ := hp
  have hs := h.size
  exact ⟨mv', hb, fun k hk => by rcases hg k hk with x | x; exact h.lies k x; omega, h.below.trans (hf.below h.size h.lies), Nat.le_trans h.size hf.size⟩

theorem MbIn.keep {B : Nat} {w0 w w' : World} {p : Nat} {mv : Value} {X : Bx} (h : MbIn B w0 w p mv X) {F : Nat → Prop} (hf : Fr F w w') (hF : ∀ k, mf p X.ns mv k → ¬ F k) (hB : ∀ k, F k → B ≤ k) : MbIn B w0 w' p mv X :=
  ⟨h.m.keep hf hF, h.lies, h.below.trans (hf.below h.size hB), Nat.le_trans h.size hf.size⟩

theorem MbIn.bel {B : Nat} {w0 w w' : World} {p : Nat} {mv : Value} {X : Bx} (h : MbIn B w0 w p mv X) (hb : Below w.heap.size w w') : MbIn B w0 w' p mv X := h.keep (bel_fr0 hb) (fun _ _ h => h) (fun _ h => h.elim)

theorem MbIn.new {w w' : World} {room : Int} (h : Mb w' w.heap.size (.slice none 0 0) (Bx.made room)) (hb : Below w.heap.size w w') : MbIn w.heap.size w w' w.heap.size (.slice none 0 0) (Bx.made room) :=
  ⟨h, fun k hk => by
    rcases hk with (e | hk) | hk
    · omega
    · simp [Bx.made] at hk
    · simp [Value.ownBlock] at hk, hb, hb.size⟩

theorem count_tmod (n m : Int) (hm : 0 < m) : -m < n.tmod m ∧ n.tmod m < m ∧ (n.tmod m < 0 → n.tmod m + m = n % m) ∧ (¬ n.tmod m < 0 → n.tmod m = n % m) := by
  have h1 := Int.emod_nonneg n (show m ≠ 0 by omega)
  have h2 := Int.emod_lt_of_pos n hm
  rw [Int.tmod_eq_emod]
  split <;> omega

theorem Count_any (n m : Int) (w : World) (hm : 0 < m ∧ m ≤ 4294967296) :
    Calls Try.prog 13 #[.int .i64 n, .int .i64 m] w fun e w' => e = .returned (.int .i64 (n % m)) ∧ w' = w := by
  obtain ⟨h1, h2, h3, h4⟩ := count_tmod n m hm.1
  have H3 := Lib.hid h3
  have H4 := Lib.hid h4
  clear h3 h4
  have hw : IntKind.i64.wrap (n.tmod m) = n.tmod m := IntWalk.i64_in _ (by omega)
  have h0 : ¬ m = 0 := by omega
  by_cases hneg : n.tmod m < 0
  · go_enter Try.func13, Try.ntmps13
    go_wp2
    go_ret
    exact ⟨by simp [H3.out hneg], rfl⟩
  · go_enter Try.func13, Try.ntmps13
    go_wp2
    go_ret
    exact ⟨by simp [H4.out hneg], rfl⟩

theorem awake_any (w : World) : Calls Try.prog 12 #[] w fun e w' => e = .returned (.bool true) ∧ Below w.heap.size w w' := by
  obtain ⟨B, hB⟩ : ∃ B, w.heap.size = B := ⟨_, rfl⟩
  go_enter Try.func12, Try.ntmps12
  go_wp2_with fail
  refine (New_ok 3 _ (by omega) (by omega)).mono ?_
  rintro e w1 ⟨rfl, hq, hb⟩
  have h1 := MbIn.new hq hb
  rw [hB] at h1 ⊢
  have HB := Lib.hid hB
  clear hq hb hB
  go_wp2_with fail
  refine (Put_room B _ _ 7 _ h1.m (by simp [Bx.made]) (by simp [Bx.made])).mono ?_
  rintro e w2 ⟨rfl, n1, hp⟩
  obtain ⟨m2, h2⟩ := h1.step hp
  clear hp h1
  go_wp2_with fail
  refine (Put_room B _ _ 8 _ h2.m (by simp [Bx.made, Bx.put]) (by simp [Bx.made, Bx.put])).mono ?_
  rintro e w3 ⟨rfl, n2, hp⟩
  obtain ⟨m3, h3⟩ := h2.step hp
  clear hp h2
  go_wp2_with fail
  refine (Next_any' B _ _ _ h3.m (by simp [Bx.made, Bx.put]) (by simp [Bx.made, Bx.put])).mono ?_
  rintro e w4 (⟨b, x, hx, rfl, hp⟩ | ⟨hx, _⟩)
  rotate_left 1
  · simp [Bx.made, Bx.put, Bx.cur] at hx
  obtain ⟨m4, h4⟩ := h3.step hp
  clear hp h3 hx
  go_wp2_with fail
  refine (Next_any' B _ _ _ h4.m (by simp [Bx.made, Bx.put, Bx.told]) (by simp [Bx.made, Bx.put, Bx.told])).mono ?_
  rintro e w5 (⟨b, x, hx, rfl, hp⟩ | ⟨hx, _⟩)
  rotate_left 1
  · simp [Bx.made, Bx.put, Bx.cur, Bx.told] at hx
  obtain ⟨m5, h5⟩ := h4.step hp
  clear hp h4 hx
  go_wp2_with fail
  refine (Next_any' B _ _ _ h5.m (by simp [Bx.made, Bx.put, Bx.told]) (by simp [Bx.made, Bx.put, Bx.told])).mono ?_
  rintro e w6 (⟨b, x, hx, rfl, hp⟩ | ⟨hx, rfl, hp⟩)
  · simp [Bx.made, Bx.put, Bx.cur, Bx.told] at hx
  obtain ⟨m6, h6⟩ := h5.step hp
  clear hp h5 hx
  go_wp2_with fail
  refine (Wait_any _ _).mono ?_
  rintro e w7 ⟨rfl, rfl⟩
  go_wp2_with fail
  refine (Put_room B _ _ 9 _ h6.m (by simp [Bx.made, Bx.put, Bx.told, Bx.going]) (by simp [Bx.made, Bx.put, Bx.told, Bx.going])).mono ?_
  rintro e w8 ⟨rfl, n3, hp⟩
  obtain ⟨m8, h8⟩ := h6.step hp
  clear hp h6
  go_wp2_with fail
  refine (Next_any' B _ _ _ h8.m (by simp [Bx.made, Bx.put, Bx.told, Bx.going]) (by simp [Bx.made, Bx.put, Bx.told, Bx.going])).mono ?_
  rintro e w9 (⟨b, x, hx, rfl, hp⟩ | ⟨hx, _⟩)
  rotate_left 1
  · simp [Bx.made, Bx.put, Bx.cur, Bx.told, Bx.going] at hx
  obtain rfl : x = 9 := by simp [Bx.made, Bx.put, Bx.cur, Bx.told, Bx.going] at hx; exact hx.2.symm
  obtain ⟨m9, h9⟩ := h8.step hp
  clear hp h8 hx
  go_wp2_with fail
  refine (Take_some B _ _ _ h9.m (by simp [Bx.told]) (by simp [Bx.made, Bx.put, Bx.told, Bx.going]) n3 9 (by simp [Bx.made, Bx.put, Bx.cur, Bx.told, Bx.going])).mono ?_
  rintro e w10 ⟨rfl, hp⟩
  obtain ⟨m10, h10⟩ := h9.step hp
  clear hp h9
  go_wp2_with fail
  refine (Ex_any B _ _ _ h10.m).mono ?_
  rintro e w11 ⟨rfl, rfl⟩
  rw [show Bx.ex _ = (3 : Int) from rfl]
  go_wp2_with fail
  refine (Len_any B _ _ _ h10.m).mono ?_
  rintro e w12 ⟨rfl, rfl⟩
  rw [show List.length (Bx.ns _) = 2 from rfl]
  go_wp2_with fail
  go_ret
  exact ⟨rfl, by rw [HB.out]; exact h10.below⟩
end Go.Proofs.Ytgijaehmffojhaa
