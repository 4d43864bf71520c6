/- A region that draws its order, walked in ONE order: operations that yield the same in every world that meets S are taken as soon as they may come up; the others come up alone. From some point on S may be chosen. -/
import Derived.Test.YtkhjdcnlpablkaaDoorBase
import Derived.OrdersHeld
namespace Go.Proofs.YtkhjdcnlpablkaaDoor
open Go.RowKit

section
variable {P : Program} {ops : Array Oper} {Q : Exit → Act → World → Prop} {md : Region.Mode}

/-- The order: 'true': it may be taken first; 'false': it comes up alone. -/
def seqOk (md : Region.Mode) (ops : Array Oper) : List (Nat × Bool) → Array Bool → Bool
  | [], listed => (Region.ready md ops listed).isEmpty
  | (i, true) :: r, listed => (Region.ready md ops listed).contains i && Region.free md ops listed i && seqOk md ops r (listed.setIfInBounds i true)
  | (i, false) :: r, listed => Region.ready md ops listed == [i] && seqOk md ops r (listed.setIfInBounds i true)

def wpSeqH (P : Program) (ops : Array Oper) (Q : Exit → Act → World → Prop) (S : World → Prop) : List (Nat × Bool) → Act → World → Prop
  | [], a, w => Q .normal a w
  | (i, true) :: r, a, w => ∃ o v, ops[i]? = some o ∧ YieldsIf P ops S o v a ∧ wpSeqH P ops Q S r (a.put o.dst v) w
  | (i, false) :: r, a, w => wpOp P ops Q i (fun a' w' => S w' ∧ wpSeqH P ops Q S r a' w') a w

/-- Till S is chosen. -/
def wpSeqP (P : Program) (ops : Array Oper) (Q : Exit → Act → World → Prop) : List (Nat × Bool) → List (Nat × Bool) → Act → World → Prop
  | [], r, a, w => ∃ S : World → Prop, S w ∧ wpSeqH P ops Q S r a w
  | (i, true) :: l, r, a, w => ∃ o v, ops[i]? = some o ∧ Yields P ops o v a ∧ wpSeqP P ops Q l r (a.put o.dst v) w
  | (i, false) :: l, r, a, w => wpOp P ops Q i (wpSeqP P ops Q l r) a w

theorem wpSeqH_sound {S : World → Prop} (hs : Region.noSelect ops = true) (hQ : ∀ c a d v w, Q (.panic c) (a.put d v) w → Q (.panic c) a w) :
    ∀ (l : List (Nat × Bool)) (listed : Array Bool) (a : Act) (w : World), seqOk md ops l listed = true → S w → wpSeqH P ops Q S l a w → wpAnyH P md ops Q S l.length listed a w
  | [], listed, a, w, hok, _, h => ⟨by simpa [seqOk] using hok, h⟩
  | (i, true) :: r, listed, a, w, hok, hS, h => by
    simp only [seqOk, Bool.and_eq_true] at hok
    obtain ⟨o, v, ho, hy, h⟩ := h
    exact wpAnyH_take ho hs hok.1.2 hok.1.1 (fun c a w h => hQ c a _ _ w h) hy hS (wpSeqH_sound hs hQ r _ _ w hok.2 hS h)
  | (i, false) :: r, listed, a, w, hok, hS, h => by
    simp only [seqOk, Bool.and_eq_true, beq_iff_eq] at hok
    refine wpAnyH_all hok.1 (by simp) fun j hj => ?_
    obtain rfl : j = i := by simpa using hj
    exact wpOp_mono (fun a' w' h' => ⟨h'.1, wpSeqH_sound hs hQ r _ a' w' hok.2 h'.1 h'.2⟩) h

theorem wpSeqP_sound (hs : Region.noSelect ops = true) (hQ : ∀ c a d v w, Q (.panic c) (a.put d v) w → Q (.panic c) a w) :
    ∀ (l r : List (Nat × Bool)) (listed : Array Bool) (a : Act) (w : World), seqOk md ops (l ++ r) listed = true → wpSeqP P ops Q l r a w → wpAny P md ops Q (l ++ r).length listed a w
  | [], r, listed, a, w, hok, h => by
    obtain ⟨S, hS, h⟩ := h
    exact wpAny_of_held _ _ _ _ (wpSeqH_sound hs hQ r listed a w hok hS h)
  | (i, true) :: l, r, listed, a, w, hok, h => by
    simp only [List.cons_append, seqOk, Bool.and_eq_true] at hok
    obtain ⟨o, v, ho, hy, h⟩ := h
    exact wpAny_take ho hs hok.1.2 hok.1.1 (fun c a w h => hQ c a _ _ w h) hy (wpSeqP_sound hs hQ l r _ _ w hok.2 h)
  | (i, false) :: l, r, listed, a, w, hok, h => by
    simp only [List.cons_append, seqOk, Bool.and_eq_true, beq_iff_eq] at hok
    refine wpAny_all hok.1 (by simp) fun j hj => ?_
    obtain rfl : j = i := by simpa using hj
    exact wpOp_mono (fun a' w' h' => wpSeqP_sound hs hQ l r _ a' w' hok.2 h') h

theorem wp_region_seq {id : Nat} {a : Act} {w : World} (l r : List (Nat × Bool)) (hm : P.follows .mixedOrders = true) (hs : Region.noSelect ops = true)
    (hok : (seqOk .any ops (l ++ r) (Array.replicate ops.size false) && (l ++ r).length == ops.size) = true) (hQ : ∀ c a d v w, Q (.panic c) (a.put d v) w → Q (.panic c) a w)
    (h : wpSeqP P ops Q l r a w.drew) : (Code.region id ops true).wp P Q a w := by
  rw [Bool.and_eq_true, beq_iff_eq] at hok
  refine wp_region_any hm ?_
  have := wpSeqP_sound (md := .any) hs hQ l r _ a w.drew hok.1 h
  rw [hok.2] at this
  exact this

/-! ### The steps -/
theorem seqP_take {i : Nat} {o : Oper} {l r : List (Nat × Bool)} {a : Act} {w : World} (v : Value) (ho : ops[i]? = some o) (hg : Region.wanted o (yielded ops a.tmps) = true)
    (hy : ∀ w, (execOp a.eval o).run P w = .ok (.value v) w) (h : wpSeqP P ops Q l r (a.put o.dst v) w) : wpSeqP P ops Q ((i, true) :: l) r a w := ⟨o, v, ho, Or.inl ⟨hg, hy⟩, h⟩

theorem seqP_call {i : Nat} {o : Oper} {l r : List (Nat × Bool)} {a : Act} {w : World} (ho : ops[i]? = some o) (hg : Region.wanted o (yielded ops a.tmps) = true)
    (h : ∀ K : Act → World → Prop, (∀ a w, wpSeqP P ops Q l r a w → K a w) → o.wp P a w K Q) : wpSeqP P ops Q ((i, false) :: l) r a w := by
  show wpOp P ops Q i _ a w
  unfold wpOp
  simp only [ho, hg, if_true]
  exact .inl (h _ fun _ _ h => h)

theorem seqP_held {r : List (Nat × Bool)} {a : Act} {w : World} (S : World → Prop) (hS : S w) (h : wpSeqH P ops Q S r a w) : wpSeqP P ops Q [] r a w := ⟨S, hS, h⟩

theorem seqH_take {S : World → Prop} {i : Nat} {o : Oper} {r : List (Nat × Bool)} {a : Act} {w : World} (v : Value) (ho : ops[i]? = some o) (hg : Region.wanted o (yielded ops a.tmps) = true)
    (hy : ∀ w, S w → (execOp a.eval o).run P w = .ok (.value v) w) (h : wpSeqH P ops Q S r (a.put o.dst v) w) : wpSeqH P ops Q S ((i, true) :: r) a w := ⟨o, v, ho, Or.inl ⟨hg, hy⟩, h⟩

theorem seqH_skip {S : World → Prop} {i : Nat} {o : Oper} {r : List (Nat × Bool)} {a : Act} {w : World} (ho : ops[i]? = some o) (hg : Region.wanted o (yielded ops a.tmps) = false)
    (h : wpSeqH P ops Q S r (a.put o.dst undef) w) : wpSeqH P ops Q S ((i, true) :: r) a w := ⟨o, undef, ho, Or.inr ⟨hg, rfl⟩, h⟩

theorem seqH_call {S : World → Prop} {i : Nat} {o : Oper} {r : List (Nat × Bool)} {a : Act} {w : World} (ho : ops[i]? = some o) (hg : Region.wanted o (yielded ops a.tmps) = true)
    (h : ∀ K : Act → World → Prop, (∀ a w, S w → wpSeqH P ops Q S r a w → K a w) → o.wp P a w K Q) : wpSeqH P ops Q S ((i, false) :: r) a w := by
  show wpOp P ops Q i _ a w
  unfold wpOp
  simp only [ho, hg, if_true]
  exact .inl (h _ fun _ _ h1 h2 => ⟨h1, h2⟩)
end
end Go.Proofs.YtkhjdcnlpablkaaDoor
