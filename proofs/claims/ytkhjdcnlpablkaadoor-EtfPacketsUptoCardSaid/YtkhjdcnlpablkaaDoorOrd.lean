/- A region that draws its order, walked along a TREE of orders: what yields the same in every world that meets S is taken as soon as it may come up; the others come up alone, or two of them in either order. -/
import Derived.Test.YtkhjdcnlpablkaaDoorSeq
namespace Go.Proofs.YtkhjdcnlpablkaaDoor
open Go.RowKit

inductive Ord where
  | done
  | take (i : Nat) (r : Ord)
  | alone (i : Nat) (r : Ord)
  | fork (i j : Nat) (r s : Ord)

def Ord.len : Ord → Nat
  | .done => 0
  | .take _ r => r.len + 1
  | .alone _ r => r.len + 1
  | .fork _ _ r _ => r.len + 1

section
variable {P : Program} {ops : Array Oper} {Q : Exit → Act → World → Prop} {md : Region.Mode} {S : World → Prop}

def ordOk (md : Region.Mode) (ops : Array Oper) : Ord → Array Bool → Bool
  | .done, listed => (Region.ready md ops listed).isEmpty
  | .take i r, listed => (Region.ready md ops listed).contains i && Region.free md ops listed i && ordOk md ops r (listed.setIfInBounds i true)
  | .alone i r, listed => Region.ready md ops listed == [i] && ordOk md ops r (listed.setIfInBounds i true)
  | .fork i j r s, listed => Region.ready md ops listed == [i, j] && r.len == s.len && ordOk md ops r (listed.setIfInBounds i true) && ordOk md ops s (listed.setIfInBounds j true)

def wpOrd (P : Program) (ops : Array Oper) (Q : Exit → Act → World → Prop) (S : World → Prop) : Ord → Act → World → Prop
  | .done, a, w => Q .normal a w
  | .take i r, a, w => ∃ o v, ops[i]? = some o ∧ YieldsIf P ops S o v a ∧ wpOrd P ops Q S r (a.put o.dst v) w
  | .alone i r, a, w => wpOp P ops Q i (fun a' w' => S w' ∧ wpOrd P ops Q S r a' w') a w
  | .fork i j r s, a, w => wpOp P ops Q i (fun a' w' => S w' ∧ wpOrd P ops Q S r a' w') a w ∧ wpOp P ops Q j (fun a' w' => S w' ∧ wpOrd P ops Q S s a' w') a w

theorem wpOrd_sound (hs : Region.noSelect ops = true) (hQ : ∀ c a d v w, Q (.panic c) (a.put d v) w → Q (.panic c) a w) :
    ∀ (o : Ord) (listed : Array Bool) (a : Act) (w : World), ordOk md ops o listed = true → S w → wpOrd P ops Q S o a w → wpAnyH P md ops Q S o.len listed a w
  | .done, listed, a, w, hok, _, h => ⟨by simpa [ordOk] using hok, h⟩
  | .take i r, listed, a, w, hok, hS, h => by
    simp only [ordOk, Bool.and_eq_true] at hok
    obtain ⟨o, v, ho, hy, h⟩ := h
    exact wpAnyH_take ho hs hok.1.2 hok.1.1 (fun c a w h => hQ c a _ _ w h) hy hS (wpOrd_sound hs hQ r _ _ w hok.2 hS h)
  | .alone i r, listed, a, w, hok, hS, h => by
    simp only [ordOk, Bool.and_eq_true, beq_iff_eq] at hok
    refine wpAnyH_all hok.1 (by simp) fun j hj => ?_
    obtain rfl : j = i := by simpa using hj
    exact wpOp_mono (fun a' w' h' => ⟨h'.1, wpOrd_sound hs hQ r _ a' w' hok.2 h'.1 h'.2⟩) h
  | .fork i j r s, listed, a, w, hok, hS, h => by
    simp only [ordOk, Bool.and_eq_true, beq_iff_eq] at hok
    obtain ⟨⟨⟨h1, h2⟩, h3⟩, h4⟩ := hok
    refine wpAnyH_all h1 (by simp) fun k hk => ?_
    simp only [List.mem_cons, List.not_mem_nil, or_false] at hk
    rcases hk with rfl | rfl
    · exact wpOp_mono (fun a' w' h' => ⟨h'.1, wpOrd_sound hs hQ r _ a' w' h3 h'.1 h'.2⟩) h.1
    · exact wpOp_mono (fun a' w' h' => ⟨h'.1, h2 ▸ wpOrd_sound hs hQ s _ a' w' h4 h'.1 h'.2⟩) h.2

theorem wp_region_ord {id : Nat} {a : Act} {w : World} (o : Ord) (S : World → Prop) (hm : P.follows .mixedOrders = true) (hs : Region.noSelect ops = true)
    (hok : (ordOk .any ops o (Array.replicate ops.size false) && o.len == ops.size) = true) (hQ : ∀ c a d v w, Q (.panic c) (a.put d v) w → Q (.panic c) a w)
    (hS : S w.drew) (h : wpOrd P ops Q S o a w.drew) : (Code.region id ops true).wp P Q a w := by
  rw [Bool.and_eq_true, beq_iff_eq] at hok
  refine wp_region_held (S := S) hm ?_
  have := wpOrd_sound (md := .any) hs hQ o _ a w.drew hok.1 hS h
  rw [hok.2] at this
  exact this

theorem ord_done {a : Act} {w : World} (h : Q .normal a w) : wpOrd P ops Q S .done a w := h

theorem ord_take {i : Nat} {o : Oper} {r : Ord} {a : Act} {w : World} (v : Value) (ho : ops[i]? = some o) (hg : Region.wanted o (yielded ops a.tmps) = true)
    (hy : ∀ w, S w → (execOp a.eval o).run P w = .ok (.value v) w) (h : wpOrd P ops Q S r (a.put o.dst v) w) : wpOrd P ops Q S (.take i r) a w := ⟨o, v, ho, Or.inl ⟨hg, hy⟩, h⟩

theorem ord_op {i : Nat} {o : Oper} {a : Act} {w : World} {R : Act → World → Prop} (ho : ops[i]? = some o) (hg : Region.wanted o (yielded ops a.tmps) = true)
    (h : ∀ K : Act → World → Prop, (∀ a w, S w → R a w → K a w) → o.wp P a w K Q) : wpOp P ops Q i (fun a' w' => S w' ∧ R a' w') a w := by
  unfold wpOp
  simp only [ho, hg, if_true]
  exact .inl (h _ fun _ _ h1 h2 => ⟨h1, h2⟩)

theorem ord_alone {i : Nat} {o : Oper} {r : Ord} {a : Act} {w : World} (ho : ops[i]? = some o) (hg : Region.wanted o (yielded ops a.tmps) = true)
    (h : ∀ K : Act → World → Prop, (∀ a w, S w → wpOrd P ops Q S r a w → K a w) → o.wp P a w K Q) : wpOrd P ops Q S (.alone i r) a w := ord_op ho hg h

theorem ord_fork {i j : Nat} {oi oj : Oper} {r s : Ord} {a : Act} {w : World} (hoi : ops[i]? = some oi) (hoj : ops[j]? = some oj) (hgi : Region.wanted oi (yielded ops a.tmps) = true) (hgj : Region.wanted oj (yielded ops a.tmps) = true)
    (hi : ∀ K : Act → World → Prop, (∀ a w, S w → wpOrd P ops Q S r a w → K a w) → oi.wp P a w K Q)
    (hj : ∀ K : Act → World → Prop, (∀ a w, S w → wpOrd P ops Q S s a w → K a w) → oj.wp P a w K Q) : wpOrd P ops Q S (.fork i j r s) a w := ⟨ord_op hoi hgi hi, ord_op hoj hgj hj⟩

/-- An append to an owned slice, of a row that lies elsewhere. -/
theorem wp_append_sl {w : World} {o : Oper} {a : Act} (s x : Operand) (t : TypeId)
    (ho : o.op = .call { callee := .builtin .append, args := #[s, x], argTypes := #[t, t] })
    (e : TypeId) (i : TypeInfo) (z : Value) (size bytes : Nat) (ht : P.underlying t = some (.slice e)) (hi : P.info? e = some i) (hz : i.zero = some z)
    (hsize : i.size = size) (hby : i.bytes = bytes) (hzs : z.cells.size = size) (hsz : 0 < size)
    (v : Value) (n : Nat) (xs : List Value) (hs : a.eval s = v) (hown : Sl w e size v n xs)
    (ad : Addr) (m c : Nat) (news : List Value) (hx : a.eval x = .slice (some ad) m c) (hl : news.length = m * size) (hnews : ∀ j u, news[j]? = some u → w.cell? (ad.add j) = some u) (h1 : ∀ u ∈ news, u.oneCell' = true)
    (h63 : n + m ≤ maxLen) (hbytes : (n + m) * bytes ≤ 140737488355328) {K : Act → World → Prop}
    (h : ∀ v' w', Sl w' e size v' (n + m) (xs ++ news) → Fr (fun k => v.ownBlock = some k) w w' → (v'.ownBlock = v.ownBlock ∨ v'.ownBlock = some w.heap.size) → K (a.put o.dst v') w') : o.wp P a w K Q := by
  obtain ⟨v', w', hr, h2, h3, h4⟩ := run_append_sl (P := P) w t o.type e i z size bytes ht hi hz hsize hby hzs hsz v n xs hown ad m c news hl hnews h1 h63 hbytes
  unfold Oper.wp execOp
  simp only [ho, resolve, invoke, builtin, Sem.run_bind, Sem.run_pure, Result.andThen_ok, List.map_toArray, List.map_cons, List.map_nil, hs, hx, hr]
  exact h v' w' h2 h3 h4
end
end Go.Proofs.YtkhjdcnlpablkaaDoor
