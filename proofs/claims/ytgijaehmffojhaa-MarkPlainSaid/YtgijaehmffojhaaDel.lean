/- Cells written in a row of a whole block; an element taken out of a slice. -/
import Derived.Test.YtgijaehmffojhaaBase
import Derived.Lib.SliceRun
import Derived.Deep.RegionLaw
namespace Go.Proofs.Ytgijaehmffojhaa
open Go.RowKit

theorem list_splice_step {α : Type} (l : List α) (o : Nat) (v : α) (r : List α) (h : o + (r.length + 1) ≤ l.length) :
    (l.set o v).take (o + 1) ++ r ++ (l.set o v).drop (o + 1 + r.length) = l.take o ++ (v :: r) ++ l.drop (o + (r.length + 1)) := by
  have e1 : (l.set o v).take (o + 1) = l.take o ++ [v] := by
    rw [List.take_add_one, List.take_set_of_le (Nat.le_refl _), List.getElem?_set_self (by omega)]
    rfl
  have e2 : (l.set o v).drop (o + 1 + r.length) = l.drop (o + (r.length + 1)) := by
    rw [List.drop_set_of_lt (by omega), show o + 1 + r.length = o + (r.length + 1) by omega]
  rw [e1, e2]
  simp

/-- Cells of a whole block, written one by one from place o on. -/
theorem blk_setCells {b t : Nat} : ∀ (vs : List Value) (o : Nat) (w : World) (cur : Array Value), w.heap[b]? = some (.cells cur t (0, 0)) → o + vs.length ≤ cur.size →
    (w.setCells b o vs).heap[b]? = some (.cells (cur.toList.take o ++ vs ++ cur.toList.drop (o + vs.length)).toArray t (0, 0))
  | [], o, w, cur, h, _ => by
    simp only [World.setCells, List.append_nil, List.length_nil, Nat.add_zero, List.take_append_drop]
    exact h
  | v :: r, o, w, cur, h, hs => by
    have hs' : o + (r.length + 1) ≤ cur.size := hs
    have h1 := blk_set h o v
    have := blk_setCells r (o + 1) _ _ h1 (by simp; omega)
    rw [World.setCells, this]
    simp only [Array.toList_setIfInBounds, List.length_cons]
    rw [list_splice_step _ _ _ _ (by simpa using hs')]

theorem fr_setCells {F : Nat → Prop} {b : Nat} : ∀ (vs : List Value) (o : Nat) {a w : World}, Fr F a w → (F b ∨ a.heap.size ≤ b) → Fr F a (w.setCells b o vs)
  | [], _, _, _, h, _ => h
  | v :: r, o, _, _, h, hF => fr_setCells r (o + 1) (h.setCell (p := ⟨b, o, none⟩) hF v) hF

theorem del_cells {α : Type} (cur : List α) (off n k : Nat) (z : α) (hk : k < n) (hs : off + n ≤ cur.length) :
    ((((cur.take (off + k) ++ ((cur.drop off).take n).drop (k + 1) ++ cur.drop (off + k + (n - (k + 1)))).take (off + (n - 1)) ++ [z] ++
      (cur.take (off + k) ++ ((cur.drop off).take n).drop (k + 1) ++ cur.drop (off + k + (n - (k + 1)))).drop (off + (n - 1) + 1)).drop off).take (n - 1)) =
      ((cur.drop off).take n).take k ++ ((cur.drop off).take n).drop (k + 1) := by
  apply List.ext_getElem?
  intro i
  by_cases h1 : i < n - 1
  · rw [List.getElem?_take, if_pos h1, List.getElem?_drop, List.append_assoc, List.getElem?_append_left (by simp; omega), List.getElem?_take, if_pos (by omega), List.append_assoc]
    by_cases h2 : i < k
    · rw [List.getElem?_append_left (by simp; omega), List.getElem?_take, if_pos (by omega), List.getElem?_append_left (by simp; omega), List.getElem?_take, if_pos h2, List.getElem?_take, if_pos (by omega), List.getElem?_drop]
    · rw [List.getElem?_append_right (by simp; omega), List.getElem?_append_left (by simp; omega), List.getElem?_append_right (by simp; omega)]
      congr 1
      simp
      omega
  · rw [List.getElem?_eq_none (by simp; omega), List.getElem?_eq_none (by simp; omega)]

/-- The builtin copy onto a slice of the call's own, of as many elements (one cell each). -/
theorem run_copy_sl {P : Program} (w : World) (dT sT ty e : TypeId) (hu : P.underlying dT = some (.slice e)) (hsz : (P.info? e).map (·.size) = some 1)
    (v y : Value) (n : Nat) (xs ys : List Value) (hs : Sl w e 1 v n xs) (hy : Rd w 1 y n ys) (h1 : ∀ u ∈ ys, u.oneCell' = true) :
    ∃ w', (Builtin.copy_ #[dT, sT] ty #[v, y]).run P w = .ok (goInt n) w' ∧ Sl w' e 1 v n ys ∧ Fr (fun q => v.ownBlock = some q) w w' := by
  have hyl : ys.length = n := by have := hy.len; omega
  obtain ⟨ao, cap, rfl, h0, hnc, hcm, h3⟩ := hs
  rcases Nat.eq_zero_or_pos n with rfl | hn
  · obtain ⟨ao2, cap2, rfl, _, _⟩ := hy.shape
    have e1 : xs = [] := List.eq_nil_of_length_eq_zero (by omega)
    have e2 : ys = [] := List.eq_nil_of_length_eq_zero (by omega)
    subst e1 e2
    exact ⟨w, run_copy_none (P := P) w dT sT ty e ao ao2 0 cap 0 cap2 hu hsz rfl, ⟨ao, cap, rfl, by simp, hnc, hcm, h3⟩, Fr.refl _ _⟩
  · obtain ⟨g2, off2, cap2, rfl, _, _, hc⟩ := hy.at hn
    rcases h3 with ⟨rfl, h⟩ | ⟨g, off, cur, rfl, hg, hfit, htake⟩
    · omega
    · have hrun := run_copy_cells (P := P) w dT sT ty e g off n cap ⟨g2, off2, none⟩ n cap2 ys hu hsz (by rw [hyl]; exact (Nat.min_self n).symm)
        (fun j u hj => by
          have := (List.getElem?_eq_some_iff.1 hj).1
          rw [Addr.add_lit, hc j (by omega)]; exact hj)
        (fun j hj => by rw [blk_cell hg, Array.getElem?_eq_getElem (by omega)]; rfl) (fun j _ => blk_free hg _) h1
      rw [hyl] at hrun
      have hb := blk_setCells ys off w cur hg (by omega)
      refine ⟨_, hrun, ⟨_, _, rfl, by omega, hnc, hcm, .inr ⟨g, off, _, rfl, hb, ?_, ?_⟩⟩, fr_setCells ys off (Fr.refl _ _) (Or.inl rfl)⟩
      · simp; omega
      · have hl : cur.toList.length = cur.size := by simp
        simp only [List.append_assoc]
        rw [List.drop_append_of_le_length (by simp; omega), List.drop_take, show off - off = 0 by omega, List.take_zero, List.nil_append, Nat.mul_one, ← hyl, List.take_left]

theorem wpList_copy_sl {P : Program} {w : World} {ops : Array Oper} {rest : List Oper} {o : Oper} {a : Act} {Q : Exit → Act → World → Prop} (hgd : o.guard = none) (d s : Operand) (dT sT : TypeId)
    (ho : o.op = .call { callee := .builtin .copy, args := #[d, s], argTypes := #[dT, sT] }) (e : TypeId) (hu : P.underlying dT = some (.slice e)) (hsz : (P.info? e).map (·.size) = some 1)
    (v y : Value) (n : Nat) (xs ys : List Value) (hd : a.eval d = v) (hs' : a.eval s = y) (hs : Sl w e 1 v n xs) (hy : Rd w 1 y n ys) (h1 : ∀ u ∈ ys, u.oneCell' = true)
    (h : ∀ w', Sl w' e 1 v n ys → Fr (fun q => v.ownBlock = some q) w w' → wpList P ops Q rest (a.put o.dst (goInt n)) w') : wpList P ops Q (o :: rest) a w := by
  refine wpList_plain hgd fun K hK => ?_
  obtain ⟨w', hr, h2, h3⟩ := run_copy_sl (P := P) w dT sT o.type e hu hsz v y n xs ys hs hy h1
  unfold Oper.wp execOp
  simp only [ho, resolve, invoke, builtin, Sem.run_bind, Sem.run_pure, Result.andThen_ok, List.map_toArray, List.map_cons, List.map_nil, hd, hs', hr]
  exact hK _ _ (h w' h2 h3)

end Go.Proofs.Ytgijaehmffojhaa
