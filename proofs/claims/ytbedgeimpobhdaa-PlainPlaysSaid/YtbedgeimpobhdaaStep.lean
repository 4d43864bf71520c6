/- One call, of both: the mailbox and the document's. -/
import Derived.Test.YtbedgeimpobhdaaRef
import Derived.Test.YtbedgeimpobhdaaTake
import Derived.Test.YtbedgeimpobhdaaSwap
import Derived.Deep.RegionWith
namespace Go.Proofs.Ytbedgeimpobhdaa
open Go.RowKit

/-- The two mailboxes, which lie apart. -/
structure Pair (B : Nat) (w0 w : World) (p q : Nat) (room : Int) (at1 : Nat) (ex1 : Int) (l1 : List Int) (sl1 : Value) (at2 : Nat) (last ex2 : Int) (l2 : List Int) (sl2 : Value) : Prop where
  b : BoxIn B w0 w p room at1 ex1 l1 sl1
  r : RBox w q room at2 last ex2 l2 sl2
  rl : ∀ k, bf q sl2 k → B ≤ k
  dis : ∀ k, bf p sl1 k → ¬ bf q sl2 k

theorem Pair.stepB {B : Nat} {w0 w w' : World} {p q : Nat} {room : Int} {at1 : Nat} {ex1 : Int} {l1 : List Int} {sl1 : Value} {at2 : Nat} {last ex2 : Int} {l2 : List Int} {sl2 : Value} {at' : Nat} {ex' : Int} {l' : List Int}
    (h : Pair B w0 w p q room at1 ex1 l1 sl1 at2 last ex2 l2 sl2) (hp : BoxPost p room at' ex' l' sl1 w w') :
    ∃ sl', Pair B w0 w' p q room at' ex' l' sl' at2 last ex2 l2 sl2 ∧ Fr (bf p sl1) w w' := by
  obtain ⟨sl', hb, hf, hg⟩ := hp
  have hs := h.b.size
  refine ⟨sl', ⟨⟨hb, fun k hk => ?_, h.b.below.trans (hf.below h.b.size h.b.lies), Nat.le_trans h.b.size hf.size⟩, h.r.keep hf (fun k hk hk' => h.dis k hk' hk), h.rl, fun k hk hk' => ?_⟩, hf⟩
  · rcases hg k hk with x | x
    · exact h.b.lies k x
    · omega
  · rcases hg k hk with x | x
    · exact h.dis k x hk'
    · have := h.r.lt k hk'; omega

theorem Pair.stepR {B : Nat} {w0 w w' : World} {p q : Nat} {room : Int} {at1 : Nat} {ex1 : Int} {l1 : List Int} {sl1 : Value} {at2 : Nat} {last ex2 : Int} {l2 : List Int} {sl2 : Value} {at' : Nat} {last' ex' : Int} {l' : List Int}
    (h : Pair B w0 w p q room at1 ex1 l1 sl1 at2 last ex2 l2 sl2) (hp : RPost q room at' last' ex' l' sl2 w w') :
    ∃ sl', Pair B w0 w' p q room at1 ex1 l1 sl1 at' last' ex' l' sl' ∧ Fr (bf q sl2) w w' := by
  obtain ⟨sl', hb, hf, hg⟩ := hp
  have hs := h.b.size
  refine ⟨sl', ⟨h.b.keep hf (fun k hk hk' => h.dis k hk hk') h.rl, hb, fun k hk => ?_, fun k hk hk' => ?_⟩, hf⟩
  · rcases hg k hk with x | x
    · exact h.rl k x
    · omega
  · rcases hg k hk' with x | x
    · exact h.dis k hk x
    · have := h.b.box.lt k hk; omega

theorem Pair.keep {B : Nat} {w0 w w' : World} {p q : Nat} {room : Int} {at1 : Nat} {ex1 : Int} {l1 : List Int} {sl1 : Value} {at2 : Nat} {last ex2 : Int} {l2 : List Int} {sl2 : Value}
    (h : Pair B w0 w p q room at1 ex1 l1 sl1 at2 last ex2 l2 sl2) {F : Nat → Prop} (hf : Fr F w w') (h1 : ∀ k, bf p sl1 k → ¬ F k) (h2 : ∀ k, bf q sl2 k → ¬ F k) (h3 : ∀ k, F k → B ≤ k) :
    Pair B w0 w' p q room at1 ex1 l1 sl1 at2 last ex2 l2 sl2 := ⟨h.b.keep hf h1 h3, h.r.keep hf h2, h.rl, h.dis⟩

theorem Pair.lt {B : Nat} {w0 w : World} {p q : Nat} {room : Int} {at1 : Nat} {ex1 : Int} {l1 : List Int} {sl1 : Value} {at2 : Nat} {last ex2 : Int} {l2 : List Int} {sl2 : Value}
    (h : Pair B w0 w p q room at1 ex1 l1 sl1 at2 last ex2 l2 sl2) : (∀ k, bf p sl1 k → k < w.heap.size) ∧ (∀ k, bf q sl2 k → k < w.heap.size) := ⟨h.b.box.lt, h.r.lt⟩

theorem Pair.stepB3 {B : Nat} {w0 w w' : World} {p q : Nat} {room : Int} {at1 : Nat} {ex1 : Int} {l1 : List Int} {sl1 : Value} {at2 : Nat} {last ex2 : Int} {l2 : List Int} {sl2 : Value} {at' : Nat} {ex' : Int} {l' : List Int}
    (h : Pair B w0 w p q room at1 ex1 l1 sl1 at2 last ex2 l2 sl2) (hp : BoxPost p room at' ex' l' sl1 w w') :
    ∃ sl', Pair B w0 w' p q room at' ex' l' sl' at2 last ex2 l2 sl2 ∧ Fr (bf p sl1) w w' ∧ (∀ k, bf p sl' k → bf p sl1 k ∨ w.heap.size ≤ k) := by
  obtain ⟨sl', hb, hf, hg⟩ := hp
  have hs := h.b.size
  refine ⟨sl', ⟨⟨hb, fun k hk => ?_, h.b.below.trans (hf.below h.b.size h.b.lies), Nat.le_trans h.b.size hf.size⟩, h.r.keep hf (fun k hk hk' => h.dis k hk' hk), h.rl, fun k hk hk' => ?_⟩, hf, hg⟩
  · rcases hg k hk with x | x
    · exact h.b.lies k x
    · omega
  · rcases hg k hk with x | x
    · exact h.dis k x hk'
    · have := h.r.lt k hk'; omega

/-- The two mailboxes, alike. -/
def Two (B : Nat) (w0 w : World) (p q : Nat) (room : Int) (at_ : Nat) (ex : Int) (l : List Int) : Prop :=
  ∃ sl1 sl2, Pair B w0 w p q room at_ ex l sl1 at_ ((at_ : Int) - 1) ex l sl2 ∧ at_ ≤ l.length ∧ (l.length : Int) ≤ room

def StepPost (B : Nat) (w0 : World) (p q : Nat) (room : Int) (e : Ending) (w' : World) : Prop :=
  e = .returned (.bool true) ∧ ∃ at_ ex l, Two B w0 w' p q room at_ ex l

def opv (k m n : Int) (ao : Option Addr) (nl cap : Nat) : Value := .agg #[.int .i64 k, .int .u64 m, .int .i64 n, .slice ao nl cap]

set_option maxHeartbeats 3200000 in
set_option maxRecDepth 100000 in
theorem step_0 (B : Nat) (w0 w : World) (p q : Nat) (room : Int) (at_ : Nat) (ex : Int) (l : List Int) (h : Two B w0 w p q room at_ ex l) (hroom : room ≤ 32) (m n : Int) (ao : Option Addr) (nl cap : Nat) :
    Calls Try.prog 19 #[.pointer (some ⟨p, 0, none⟩), .pointer (some ⟨q, 0, none⟩), opv 0 m n ao nl cap] w fun e w' => StepPost B w0 p q room e w' := by
  obtain ⟨sl1, sl2, hP, hat, hlr⟩ := h
  obtain ⟨X, hX⟩ : ∃ X, w.heap.size = X := ⟨_, rfl⟩
  obtain ⟨w1, hw1⟩ : ∃ w1, w.alloc (.cells #[.int .i64 0, .int .u64 m, .int .i64 n, .slice ao nl cap] 48) = w1 := ⟨_, rfl⟩
  have hx : w1.heap[X]? = some (.cells #[.int .i64 0, .int .u64 m, .int .i64 n, .slice ao nl cap] 48 (0, 0)) := by subst hw1 hX; exact heap_alloc_new w _
  have hf1 : Fr (fun _ => False) w w1 := by subst hw1; exact (Fr.refl _ w).alloc _
  have hP1 := hP.keep hf1 (fun _ _ h => h) (fun _ _ h => h) (fun _ h => h.elim)
  have hlt := hP.lt
  rw [hX] at hlt
  obtain ⟨hlt1, hlt2⟩ := hlt
  have cx0 := blk_cell hx 0
  have cx1 := blk_cell hx 1
  simp at cx0 cx1
  clear hP
  unfold opv
  go_enter Try.func19, Try.ntmps19
  go_wp2_with fail
  have hP2 : Pair B w0 w1.drew p q room at_ ex l sl1 at_ (at_ - 1) ex l sl2 := hP1.keep ((Fr.refl (fun _ => False) w1).drew) (fun _ _ h => h) (fun _ _ h => h) (fun _ h => h.elim)
  have hx2 : w1.drew.heap[X]? = some (.cells #[.int .i64 0, .int .u64 m, .int .i64 n, .slice ao nl cap] 48 (0, 0)) := hx
  clear hx hP1 hf1 hw1
  by_cases hr : (l.length : Int) < room
  · go_region_with (first
      | (go_at_call 9; refine (Put_room p room at_ ex m l _ _ hP2.b.box (by omega) (by omega)).mono ?_; rintro e w2 ⟨rfl, hp⟩; obtain ⟨sl3, hP3, hf3⟩ := hP2.stepB hp; have cx1' := blk_cell (hf3.at hx2 (fun h => absurd (hlt1 _ h) (Nat.lt_irrefl _))) 1; simp at cx1'; clear hp hf3 cx1)
      | (go_at_call 29; refine (RPut_room q room at_ _ ex m l _ _ hP3.r (by omega) (by omega)).mono ?_; rintro e w3 ⟨rfl, hp'⟩; obtain ⟨sl4, hP4, hf4⟩ := hP3.stepR hp'; clear hp' hf4))
    all_goals
      go_wp2_with fail
      go_ret
      exact ⟨rfl, at_, ex, l ++ [m], sl3, sl4, hP4, by simp; omega, by simp; omega⟩
  · go_region_with (first
      | (go_at_call 9; refine (Put_full p room at_ ex m l _ _ hP2.b.box (by omega)).mono ?_; rintro e w2 ⟨rfl, hp⟩; obtain ⟨sl3, hP3, hf3⟩ := hP2.stepB hp; have cx1' := blk_cell (hf3.at hx2 (fun h => absurd (hlt1 _ h) (Nat.lt_irrefl _))) 1; simp at cx1'; clear hp hf3 cx1)
      | (go_at_call 29; refine (RPut_full q room at_ _ ex m l _ _ hP3.r (by omega)).mono ?_; rintro e w3 ⟨rfl, hp'⟩; obtain ⟨sl4, hP4, hf4⟩ := hP3.stepR hp'; clear hp' hf4))
    all_goals
      go_wp2_with fail
      go_ret
      exact ⟨rfl, at_, ex, l, sl3, sl4, hP4, hat, hlr⟩
end Go.Proofs.Ytbedgeimpobhdaa
