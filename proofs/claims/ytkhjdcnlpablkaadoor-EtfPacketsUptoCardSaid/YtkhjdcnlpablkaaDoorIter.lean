/- For loops over an iterator: what a round keeps; a scope without a jump, inside a wide fence. -/
import Derived.Test.YtkhjdcnlpablkaaDoorBase
import Derived.RangeFuncBox
import Derived.RangeFuncNested
import Derived.RangeFuncBound
import Derived.RangeFuncCalls
import Derived.RangeFuncLeaves
import Derived.Shelf.Abstract
import Derived.Shelf.RegionOpen
import Derived.OwnWalkIn
import Derived.TacticsInMore
import Derived.LoopNIn
import Derived.LoopIn
import Derived.Maps.AppendAt
import Derived.Scope
namespace Go.Proofs.YtkhjdcnlpablkaaDoor
open Go.RowKit Go.Shelf

/-- A scope through which the run goes without a goto, inside the wide fence. -/
theorem wpIn_scope_wide {F : Fence} (hw : Hid (F = Fence.wide)) {n : Nat} {P : Program} {c : Code} {Q : Exit → Act → World → Prop} {a : Act} {w : World} (h : c.wpIn F n P (Exit.noGoto Q) a w) : (Code.scope c).wpIn F n P Q a w := by
  obtain rfl := hw.out
  exact wpIn_wide.2 (wp_scope_straight (wpIn_wide.1 h))

/-- A plain contract, inside the wide fence. -/
theorem callsIn_of {F : Fence} (hw : Hid (F = Fence.wide)) {n : Nat} {P : Program} {f : FuncId} {args : Array Value} {w : World} {R : Ending → World → Prop} (h : Calls P f args w R) : CallsIn F n P f args w R := by
  obtain rfl := hw.out
  exact callsIn_wide.2 h

theorem depth_ok {F : Fence} (hw : Hid (F = Fence.wide)) {p : Prop} : F.depth.isSome = true → p := by
  obtain rfl := hw.out
  intro h
  cases h

/-- The block of the slice that lies in the variable at block b. -/
def rowOf (W : World) (b : Nat) : Option Nat := (W.cell? ⟨b, 0, none⟩).bind Value.ownBlock

/-- What a round keeps: all cells but the variable at block b and its slice's. -/
structure KpL (b : Nat) (W W' : World) : Prop where
  size : W.heap.size ≤ W'.heap.size
  same : ∀ k c t fr, W.heap[k]? = some (.cells c t fr) → k ≠ b → rowOf W b ≠ some k → W'.heap[k]? = W.heap[k]?
  row : ∀ k, rowOf W' b = some k → rowOf W b = some k ∨ W.heap.size ≤ k

theorem KpL.t {b : Nat} {A B C : World} (h : KpL b A B) (k : KpL b B C) : KpL b A C :=
  ⟨Nat.le_trans h.size k.size,
   fun i c t fr hi hb hr => by
    have h1 := h.same i c t fr hi hb hr
    have hlt : i < A.heap.size := blk_lt hi
    rw [k.same i c t fr (h1.trans hi) hb (fun e => by rcases h.row i e with x | x; exact hr x; omega), h1],
   fun i hi => by
    rcases k.row i hi with x | x
    · exact h.row i x
    · exact .inr (Nat.le_trans h.size x)⟩

theorem KpL.b {b : Nat} {w : World} (hb : b < w.heap.size) (W : World) (l : Nat) (o o' : Obj) (hl : w.heap.size ≤ l) (h : W.heap[l]? = some o) (hc : o.isCells = false) (_ : o.isWalk = false) : KpL b W (W.putObj l o') := by
  refine ⟨by simp, fun k c t fr hk _ _ => World.putObj_heap_other (fun e => ?_), fun k hk => .inl ?_⟩
  · subst e; rw [h] at hk; cases hk; simp [Obj.isCells] at hc
  · have : rowOf (W.putObj l o') b = rowOf W b := by
      unfold rowOf
      rw [World.cell?_of_block (w := W) (a := ⟨b, 0, none⟩) (World.putObj_heap_other (by show b ≠ l; omega))]
    rw [← this]; exact hk

/-- A slice apart from the variable stays through a round. -/
theorem KpL.sl {b : Nat} {W W' : World} (h : KpL b W W') {e size n : Nat} {v : Value} {xs : List Value} (hs : Sl W e size v n xs) (hd : ∀ k, v.ownBlock = some k → k ≠ b ∧ rowOf W b ≠ some k) :
    Sl W' e size v n xs ∧ ∀ k, v.ownBlock = some k → k ≠ b ∧ rowOf W' b ≠ some k := by
  refine ⟨hs.keep fun k hk => ?_, fun k hk => ⟨(hd k hk).1, fun hr => ?_⟩⟩
  · obtain ⟨ao, cap, rfl, _, h1, h2, h3⟩ := hs
    rcases h3 with ⟨rfl, _⟩ | ⟨g, off, cur, rfl, h4, h5, h6⟩
    · simp [Value.ownBlock] at hk
    · simp [Value.ownBlock] at hk
      subst hk
      exact h.same _ _ _ _ h4 (hd _ rfl).1 (hd _ rfl).2
  · rcases h.row k hr with x | x
    · exact (hd k hk).2 x
    · have := hs.lt k hk; omega

theorem Fr.grownBy {F : Nat → Prop} {w w' : World} (h : Fr F w w') (hF : ∀ k, ¬ F k) : w.grownBy w' none := ⟨h.os, h.tape, h.output, h.size, fun k hk _ => h.block k hk (hF k)⟩


/-- What the law's book-keeping turns is no block of cells. -/
theorem own_blk {W W' : World} {row : Option Nat} {b t : Nat} {c : Array Value} {fr : Nat × Nat} (h : W.heap[b]? = some (.cells c t fr)) (hg : W.grownBy W' row)
    (hr : ∀ r, row = some r → ∃ o : Obj, W.heap[r]? = some o ∧ o.isCells = false) : W'.heap[b]? = some (.cells c t fr) := by
  rw [hg.block b (blk_lt h) (fun e => ?_)]
  · exact h
  · obtain ⟨o, ho, hc⟩ := hr b e.symm
    rw [h] at ho
    cases ho
    simp [Obj.isCells] at hc

theorem own_sl {W W' : World} {row : Option Nat} {e size n : Nat} {v : Value} {xs : List Value} (h : Sl W e size v n xs) (hg : W.grownBy W' row)
    (hr : ∀ r, row = some r → ∃ o : Obj, W.heap[r]? = some o ∧ o.isCells = false) : Sl W' e size v n xs := by
  obtain ⟨ao, cap, rfl, h0, h1, h2, h3⟩ := h
  refine ⟨ao, cap, rfl, h0, h1, h2, ?_⟩
  rcases h3 with h3 | ⟨g, off, cur, rfl, h4, h5, h6⟩
  · exact .inl h3
  · exact .inr ⟨g, off, cur, rfl, own_blk h4 hg hr, h5, h6⟩

/-- A frame whose blocks hold cells keeps all that is no cells. -/
theorem Fr.others {F : Nat → Prop} {W W' : World} (h : Fr F W W') (hF : ∀ k, F k → k < W.heap.size → ∃ c t fr, W.heap[k]? = some (.cells c t fr)) : KeepsOthers W W' :=
  ⟨h.size, fun k o hk ho => by
    rw [h.block k (blk_lt hk) (fun hf => ?_)]
    · exact hk
    · obtain ⟨c, t, fr, hc⟩ := hF k hf (blk_lt hk)
      rw [hk] at hc
      cases hc
      simp [Obj.isCells] at ho⟩

theorem Sl.cells {w : World} {e size n : Nat} {v : Value} {xs : List Value} (h : Sl w e size v n xs) : ∀ k, v.ownBlock = some k → ∃ c, w.heap[k]? = some (.cells c e (0, 0)) := by
  intro k hk
  obtain ⟨ao, cap, rfl, _, h1, h2, h3⟩ := h
  rcases h3 with ⟨rfl, _⟩ | ⟨g, off, cur, rfl, h4, h5, h6⟩
  · simp [Value.ownBlock] at hk
  · simp [Value.ownBlock] at hk
    subst hk
    exact ⟨cur, h4⟩

theorem rowOf_at {W : World} {b t : Nat} {v : Value} (h : W.heap[b]? = some (.cells #[v] t (0, 0))) : rowOf W b = v.ownBlock := by
  unfold rowOf
  rw [blk_cell h]
  rfl

theorem wpListIn_append_sl {F : Fence} {n : Nat} {P : Program} {w : World} {ops : Array Oper} {rest : List Oper} {o : Oper} {a : Act} {Q : Exit → Act → World → Prop} (hgd : o.guard = none) (s x : Operand) (t : TypeId)
    (hop : o.op = .call { callee := .builtin .append, args := #[s, x], argTypes := #[t, t] })
    (e : TypeId) (i : TypeInfo) (z : Value) (size bytes : Nat) (ht : P.underlying t = some (.slice e)) (hi : P.info? e = some i) (hz : i.zero = some z)
    (hsize : i.size = size) (hby : i.bytes = bytes) (hzs : z.cells.size = size) (hsz : 0 < size)
    (v : Value) (m : Nat) (xs : List Value) (hs : a.eval s = v) (hown : Sl w e size v m xs)
    (ad : Addr) (k c : Nat) (news : List Value) (hx : a.eval x = .slice (some ad) k c) (hl : news.length = k * size) (hnews : ∀ j u, news[j]? = some u → w.cell? (ad.add j) = some u) (h1 : ∀ u ∈ news, u.oneCell' = true)
    (h63 : m + k ≤ maxLen) (hbytes : (m + k) * bytes ≤ 140737488355328)
    (h : ∀ v' w', Sl w' e size v' (m + k) (xs ++ news) → Fr (fun k => v.ownBlock = some k) w w' → (v'.ownBlock = v.ownBlock ∨ v'.ownBlock = some w.heap.size) → wpListIn F n P ops Q rest (a.put o.dst v') w') : wpListIn F n P ops Q (o :: rest) a w := by
  refine wpListIn_plain hgd fun K hK => ?_
  obtain ⟨v', w', hrun, h2, h3, h4⟩ := run_append_sl (P := P) w t o.type e i z size bytes ht hi hz hsize hby hzs hsz v m xs hown ad k c news hl hnews h1 h63 hbytes
  unfold Oper.wpIn
  refine ⟨?_, ?_⟩
  · simp [Oper.about, hop, resolve, Target.leads, Sem.run_pure]
  · rw [Oper.semAt_plain F _ _ (by rw [hop]; intro c hc'; cases hc')]
    simp [execOp, hop, resolve, invoke, builtin, hs, hx, hrun, Result.andThen]
    exact hK _ _ (h v' w' h2 h3 h4)

end Go.Proofs.YtkhjdcnlpablkaaDoor
