/- Cells written in a row of a whole block; an element taken out of a slice. -/
import Derived.Test.YtbedgeimpobhdaaBase
import Derived.Lib.SliceRun
import Derived.Deep.RegionLaw
namespace Go.Proofs.Ytbedgeimpobhdaa
open Go.RowKit

theorem list_splice_step {α : Type} (l : List α) (o : Nat) (v : α) (r : List α) (h : o + (r.length + 1) ≤ l.length) :
    (l.set o v).take (o + 1) ++ r ++ (l.set o v).drop (o + 1 + r.length) = l.take o ++ (v :: r) ++ l.drop (o + (r.length + 1)) := by
  have e1 : (l.set o v).take (o + 1) = l.take o ++ [v] := by
    rw [List.take_add_one, List.take_set_of_le (Nat.le_refl _), List.getElem?_set_self (by omega)]
    rfl
  have e2 : (l.set o v).drop (o + 1 + r.length) = l.drop (o + (r.length + 1)) := by
    rw [List.drop_set_of_lt (by omega), show o + 1 + r.length = o + (r.length + 1) by omega]
  rw [e1, e2]
  simp

/-- Cells of a whole block, written one by one from place o on. -/
theorem blk_setCells {b t : Nat} : ∀ (vs : List Value) (o : Nat) (w : World) (cur : Array Value), w.heap[b]? = some (.cells cur t (0, 0)) → o + vs.length ≤ cur.size →
    (w.setCells b o vs).heap[b]? = some (.cells (cur.toList.take o ++ vs ++ cur.toList.drop (o + vs.length)).toArray t (0, 0))
  | [], o, w, cur, h, _ => by
    simp only [World.setCells, List.append_nil, List.length_nil, Nat.add_zero, List.take_append_drop]
    exact h
  | v :: r, o, w, cur, h, hs => by
    have hs' : o + (r.length + 1) ≤ cur.size := hs
    have h1 := blk_set h o v
    have := blk_setCells r (o + 1) _ _ h1 (by simp; omega)
    rw [World.setCells, this]
    simp only [Array.toList_setIfInBounds, List.length_cons]
    rw [list_splice_step _ _ _ _ (by simpa using hs')]

theorem fr_setCells {F : Nat → Prop} {b : Nat} : ∀ (vs : List Value) (o : Nat) {a w : World}, Fr F a w → (F b ∨ a.heap.size ≤ b) → Fr F a (w.setCells b o vs)
  | [], _, _, _, h, _ => h
  | v :: r, o, _, _, h, hF => fr_setCells r (o + 1) (h.setCell (p := ⟨b, o, none⟩) hF v) hF

theorem del_cells {α : Type} (cur : List α) (off n k : Nat) (z : α) (hk : k < n) (hs : off + n ≤ cur.length) :
    ((((cur.take (off + k) ++ ((cur.drop off).take n).drop (k + 1) ++ cur.drop (off + k + (n - (k + 1)))).take (off + (n - 1)) ++ [z] ++
      (cur.take (off + k) ++ ((cur.drop off).take n).drop (k + 1) ++ cur.drop (off + k + (n - (k + 1)))).drop (off + (n - 1) + 1)).drop off).take (n - 1)) =
      ((cur.drop off).take n).take k ++ ((cur.drop off).take n).drop (k + 1) := by
  apply List.ext_getElem?
  intro i
  by_cases h1 : i < n - 1
  · rw [List.getElem?_take, if_pos h1, List.getElem?_drop, List.append_assoc, List.getElem?_append_left (by simp; omega), List.getElem?_take, if_pos (by omega), List.append_assoc]
    by_cases h2 : i < k
    · rw [List.getElem?_append_left (by simp; omega), List.getElem?_take, if_pos (by omega), List.getElem?_append_left (by simp; omega), List.getElem?_take, if_pos h2, List.getElem?_take, if_pos (by omega), List.getElem?_drop]
    · rw [List.getElem?_append_right (by simp; omega), List.getElem?_append_left (by simp; omega), List.getElem?_append_right (by simp; omega)]
      congr 1
      simp
      omega
  · rw [List.getElem?_eq_none (by simp; omega), List.getElem?_eq_none (by simp; omega)]

end Go.Proofs.Ytbedgeimpobhdaa
