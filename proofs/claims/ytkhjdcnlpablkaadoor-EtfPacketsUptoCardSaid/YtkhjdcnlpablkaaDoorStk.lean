/- Plain: the stack of what is still to be read. -/
import Derived.Test.YtkhjdcnlpablkaaDoorOne
namespace Go.Proofs.YtkhjdcnlpablkaaDoor
open Go.RowKit

theorem Runs.pos {bs : List UInt8} {k : Nat} {c : Bool} {s s' : Rs} (h : Runs bs k c s (.ok s')) (hp : s.pos ≤ bs.length) : s'.pos ≤ bs.length := by
  obtain ⟨r, h1, h2⟩ := kids_total bs (bs.length + 1) k c s (by omega) hp
  have := Runs.unique h ⟨_, h1⟩
  exact (h2 s' this.symm).2

/-- What is left to do gives r. -/
def Stk (bs : List UInt8) : List (Nat × Bool) → Rs → Res Rs → Prop
  | [], s, r => r = .ok s
  | (k, c) :: t, s, r => ∃ r1, Runs bs k c s r1 ∧ ((∃ e p, r1 = .bad e p ∧ r = .bad e p) ∨ ∃ s2, r1 = .ok s2 ∧ Stk bs t s2 r)

theorem Stk.zero {bs : List UInt8} {c : Bool} {t : List (Nat × Bool)} {s : Rs} {r : Res Rs} (h : Stk bs ((0, c) :: t) s r) : Stk bs t s r := by
  obtain ⟨r1, h1, h2⟩ := h
  have := Runs.unique h1 (Runs.zero (c := c))
  subst this
  rcases h2 with ⟨e, p, h2, _⟩ | ⟨s2, h2, h3⟩
  · cases h2
  · cases h2; exact h3
theorem Stk.bad {bs : List UInt8} {k e p : Nat} {c : Bool} {t : List (Nat × Bool)} {s : Rs} {r : Res Rs} (h : Stk bs ((k + 1, c) :: t) s r) (ho : oneD bs (push c k s) = .bad e p) : r = .bad e p := by
  obtain ⟨r1, h1, h2⟩ := h
  have := Runs.unique h1 (Runs.bad ho)
  subst this
  rcases h2 with ⟨e, p, h2, h3⟩ | ⟨s2, h2, h3⟩
  · cases h2; exact h3
  · cases h2
theorem Stk.step {bs : List UInt8} {k k1 : Nat} {c c1 : Bool} {t : List (Nat × Bool)} {s s1 : Rs} {r : Res Rs} (h : Stk bs ((k + 1, c) :: t) s r) (ho : oneD bs (push c k s) = .ok (s1, k1, c1)) : Stk bs ((k1, c1) :: (k, c) :: t) s1 r := by
  obtain ⟨r1, h1, h2⟩ := h
  have hp := (oneD_ok ho).2.1
  obtain ⟨ra, ha⟩ := Runs.total bs k1 c1 s1 hp
  refine ⟨ra, ha, ?_⟩
  cases ra with
  | bad e p =>
    have := Runs.unique h1 (Runs.stop ho ha)
    subst this
    rcases h2 with ⟨e', p', h2, h3⟩ | ⟨s2, h2, h3⟩
    · cases h2; exact .inl ⟨e, p, rfl, h3⟩
    · cases h2
  | ok s2 =>
    obtain ⟨rb, hb⟩ := Runs.total bs k c s2 (ha.pos hp)
    have := Runs.unique h1 (Runs.step ho ha hb)
    subst this
    exact .inr ⟨s2, rfl, r1, hb, h2⟩
theorem Stk.start {bs : List UInt8} {s : Rs} {c : Bool} {r : Res Rs} (h : Runs bs 1 c s r) : Stk bs [(1, c)] s r := by
  refine ⟨r, h, ?_⟩
  cases r with
  | bad e p => exact .inl ⟨e, p, rfl, rfl⟩
  | ok s2 => exact .inr ⟨s2, rfl, rfl⟩

/-- The stack's cells: its top stands last. -/
def kx : List (Nat × Bool) → List Value
  | [] => []
  | (k, c) :: t => kx t ++ [.int .i64 k, .bool c]
theorem kx_len : ∀ t : List (Nat × Bool), (kx t).length = t.length * 2
  | [] => rfl
  | (k, c) :: t => by rw [kx, List.length_append, kx_len t, List.length_cons]; simp; omega
theorem kx_take (k : Nat) (c : Bool) (t : List (Nat × Bool)) : (kx ((k, c) :: t)).take (t.length * 2) = kx t := by
  rw [kx, List.take_left' (kx_len t)]
theorem kx_set (k k' : Nat) (c : Bool) (t : List (Nat × Bool)) : (kx ((k, c) :: t)).set (t.length * 2) (.int .i64 k') = kx ((k', c) :: t) := by
  rw [kx, kx, List.set_append_right (t.length * 2) _ (by rw [kx_len]; exact Nat.le_refl _), kx_len, Nat.sub_self]
  rfl
theorem kx_top (k : Nat) (c : Bool) (t : List (Nat × Bool)) : (kx ((k, c) :: t))[t.length * 2]? = some (.int .i64 k) ∧ (kx ((k, c) :: t))[t.length * 2 + 1]? = some (.bool c) := by
  rw [kx]
  constructor
  · rw [List.getElem?_append_right (by rw [kx_len]; exact Nat.le_refl _), kx_len, Nat.sub_self]; rfl
  · rw [List.getElem?_append_right (by rw [kx_len]; omega), kx_len, Nat.add_sub_cancel_left]; rfl

/-- The first elements of an owned slice. -/
theorem Sl.take {w : World} {e size n cap : Nat} {ao : Option Addr} {xs : List Value} (h : Sl w e size (.slice ao n cap) n xs) {m : Nat} (hm : m ≤ n) : Sl w e size (.slice ao m cap) m (xs.take (m * size)) := by
  obtain ⟨ao', cap', hv, h0, h1, h2, h3⟩ := h
  cases hv
  have hms : m * size ≤ n * size := Nat.mul_le_mul_right _ hm
  refine ⟨ao, cap, rfl, by rw [List.length_take, h0]; omega, by omega, h2, ?_⟩
  rcases h3 with h3 | ⟨g, off, cur, hg, hb, hl, hx⟩
  · exact .inl h3
  · exact .inr ⟨g, off, cur, hg, hb, hl, by rw [← hx, List.take_take, Nat.min_eq_left hms]⟩
end Go.Proofs.YtkhjdcnlpablkaaDoor
