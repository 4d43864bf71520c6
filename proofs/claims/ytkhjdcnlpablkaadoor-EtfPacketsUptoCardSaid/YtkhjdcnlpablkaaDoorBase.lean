/- Frames and blocks: what a call leaves as it was; a block known whole; what its cells hold. -/
import Derived.WalkKit
import Derived.Lib.Hide
import Derived.Deep.QuietTactic
import Derived.BigQuiet
namespace Go.Proofs.YtkhjdcnlpablkaaDoor
open Go.RowKit

/-- Nothing that was there has turned but (perhaps) the blocks in F. -/
structure Fr (F : Nat → Prop) (w w' : World) : Prop where
  os : w'.os = w.os
  tape : w'.tape = w.tape
  output : w'.output = w.output
  size : w.heap.size ≤ w'.heap.size
  block : ∀ k, k < w.heap.size → ¬ F k → w'.heap[k]? = w.heap[k]?

theorem Fr.refl (F : Nat → Prop) (w : World) : Fr F w w := ⟨rfl, rfl, rfl, Nat.le_refl _, fun _ _ _ => rfl⟩

theorem Fr.trans {F : Nat → Prop} {a b c : World} (h : Fr F a b) (k : Fr F b c) : Fr F a c :=
  ⟨k.os.trans h.os, k.tape.trans h.tape, k.output.trans h.output, Nat.le_trans h.size k.size,
   fun i hi hF => (k.block i (Nat.lt_of_lt_of_le hi h.size) hF).trans (h.block i hi hF)⟩

/-- Two steps; the second may write what the first has made. -/
theorem Fr.trans' {F G : Nat → Prop} {a b c : World} (h : Fr F a b) (k : Fr G b c) (hG : ∀ i, G i → F i ∨ a.heap.size ≤ i) : Fr F a c :=
  ⟨k.os.trans h.os, k.tape.trans h.tape, k.output.trans h.output, Nat.le_trans h.size k.size,
   fun i hi hF => (k.block i (Nat.lt_of_lt_of_le hi h.size) (fun g => by rcases hG i g with x | x; exact hF x; omega)).trans (h.block i hi hF)⟩

theorem Fr.mono {F G : Nat → Prop} {w w' : World} (h : Fr F w w') (hF : ∀ k, F k → G k) : Fr G w w' :=
  ⟨h.os, h.tape, h.output, h.size, fun k hk hG => h.block k hk (fun f => hG (hF k f))⟩

theorem Fr.alloc {F : Nat → Prop} {a w : World} (h : Fr F a w) (o : Obj) : Fr F a (w.alloc o) :=
  h.trans ⟨rfl, rfl, rfl, by simp, fun k hk _ => Below.heap_alloc _ _ _ hk⟩

theorem Fr.drew {F : Nat → Prop} {a w : World} (h : Fr F a w) : Fr F a w.drew := ⟨h.os, h.tape, h.output, h.size, h.block⟩
theorem Fr.drewN {F : Nat → Prop} {a w : World} (h : Fr F a w) (n : Nat) : Fr F a (w.drewN n) := ⟨h.os, h.tape, h.output, h.size, h.block⟩

theorem Fr.setCell {F : Nat → Prop} {a w : World} (h : Fr F a w) {p : Addr} (hp : F p.block ∨ a.heap.size ≤ p.block) (u : Value) : Fr F a (w.setCell p u) :=
  h.trans' (G := fun k => k = p.block) ⟨rfl, rfl, rfl, by simp [World.setCell], fun k _ hk => Below.heap_setCell _ _ _ _ hk⟩ (fun i hi => by subst hi; exact hp)

theorem Fr.grown {F : Nat → Prop} {a w w' : World} {row : Option Nat} (h : Fr F a w) (hg : w.grownBy w' row) (hr : ∀ k, row = some k → F k ∨ a.heap.size ≤ k) : Fr F a w' :=
  h.trans' (G := fun k => row = some k) ⟨hg.os, hg.tape, hg.output, hg.size, fun k hk hne => hg.block k hk (fun e => hne e.symm)⟩ hr

theorem Fr.below {F : Nat → Prop} {w w' : World} (h : Fr F w w') {B : Nat} (hB : B ≤ w.heap.size) (hF : ∀ k, F k → B ≤ k) : Below B w w' :=
  ⟨h.os, h.tape, h.output, h.size, fun k hk => h.block k (by omega) (fun f => by have := hF k f; omega)⟩

theorem bel_drewN {B : Nat} {a w : World} (h : Below B a w) (n : Nat) : Below B a (w.drewN n) := h.trans ⟨rfl, rfl, rfl, Nat.le_refl _, fun _ _ => rfl⟩
/-- What is as it was below the old end. -/
theorem bel_fr {w w' : World} (h : Below w.heap.size w w') : Fr (fun k => w.heap.size ≤ k) w w' := ⟨h.os, h.tape, h.output, h.size, fun q hq _ => h.block q hq⟩

theorem blk_lt {w : World} {b : Nat} {o : Obj} (h : w.heap[b]? = some o) : b < w.heap.size := by
  rcases Nat.lt_or_ge b w.heap.size with h' | h'
  · exact h'
  · simp [Array.getElem?_eq_none h'] at h

theorem blk_cell {w : World} {b : Nat} {c : Array Value} {t : TypeId} (h : w.heap[b]? = some (.cells c t (0, 0))) (i : Nat) : w.cell? ⟨b, i, none⟩ = c[i]? := by
  simp [World.cell?, h]

theorem blk_free {w : World} {b : Nat} {c : Array Value} {t : TypeId} (h : w.heap[b]? = some (.cells c t (0, 0))) (i : Nat) : w.frozen? ⟨b, i, none⟩ = false := by
  simp [World.frozen?, h]

theorem blk_set {w : World} {b : Nat} {c : Array Value} {t : TypeId} (h : w.heap[b]? = some (.cells c t (0, 0))) (i : Nat) (u : Value) :
    (w.setCell ⟨b, i, none⟩ u).heap[b]? = some (.cells (c.setIfInBounds i u) t (0, 0)) := by
  have hlt := blk_lt h
  show (w.heap.modify b _)[b]? = _
  have h' : w.heap[b] = .cells c t (0, 0) := by simpa [Array.getElem?_eq_getElem hlt] using h
  rw [Array.getElem?_eq_getElem (by simpa using hlt), Array.getElem_modify_self, h']
  rfl

theorem blk_set_other {w : World} {b : Nat} {a : Addr} (u : Value) (hne : b ≠ a.block) : (w.setCell a u).heap[b]? = w.heap[b]? :=
  Below.heap_setCell _ _ _ _ hne

theorem blk_alloc {w : World} {b : Nat} {o o' : Obj} (h : w.heap[b]? = some o) : (w.alloc o').heap[b]? = some o := by
  rw [Below.heap_alloc _ _ _ (blk_lt h)]; exact h

theorem Fr.at {F : Nat → Prop} {w w' : World} (h : Fr F w w') {b : Nat} {o : Obj} (hb : w.heap[b]? = some o) (hF : ¬ F b) : w'.heap[b]? = some o := by
  rw [h.block b (blk_lt hb) hF]; exact hb

/-- A row that is owned, where its block is not written. -/
theorem Fr.owns {F : Nat → Prop} {w w' : World} (h : Fr F w w') {base e size n : Nat} {v : Value} {xs : List Value} (ho : w.ownsRow base e size v n xs) (hF : ∀ k, v.ownBlock = some k → ¬ F k) : w'.ownsRow base e size v n xs := by
  refine ⟨ho.1, ?_⟩
  rcases ho.2 with hn | ⟨g, cap, cur, rfl, hb, hg, r⟩
  · exact .inl hn
  · exact .inr ⟨g, cap, cur, rfl, hb, h.at hg (hF g rfl), r⟩

/-- What is owned lies in a block of its own element type: not in a block of another type. -/
theorem owns_ne {w : World} {base e size n : Nat} {v : Value} {xs : List Value} (ho : w.ownsRow base e size v n xs) {b t : Nat} {c : Array Value} (hb : w.heap[b]? = some (.cells c t (0, 0))) (hne : e ≠ t) : ∀ k, v.ownBlock = some k → k ≠ b := by
  intro k hk e1
  subst e1
  rcases ho.2 with ⟨rfl, _⟩ | ⟨g, cap, cur, rfl, _, hg, _⟩
  · simp [Value.ownBlock] at hk
  · simp [Value.ownBlock] at hk
    subst hk
    rw [hg] at hb
    simp at hb
    exact hne hb.2

/-! ### A slice whose elements are xs (each 'size' cells), in memory that is not frozen: nil, or a piece of a whole block of its own element type. -/
def Sl (w : World) (e size : Nat) (v : Value) (n : Nat) (xs : List Value) : Prop :=
  ∃ ao cap, v = .slice ao n cap ∧ xs.length = n * size ∧ n ≤ cap ∧ cap ≤ maxLen ∧
    ((ao = none ∧ cap = 0) ∨ ∃ g off cur, ao = some ⟨g, off, none⟩ ∧ w.heap[g]? = some (.cells cur e (0, 0)) ∧ off + cap * size ≤ cur.size ∧ (cur.toList.drop off).take (n * size) = xs)

theorem Sl.nil (w : World) (e size : Nat) : Sl w e size (.slice none 0 0) 0 [] := ⟨none, 0, rfl, by simp, Nat.le_refl _, by unfold maxLen; omega, .inl ⟨rfl, rfl⟩⟩

theorem Sl.shape {w : World} {e size n : Nat} {v : Value} {xs : List Value} (h : Sl w e size v n xs) : ∃ ao cap, v = .slice ao n cap ∧ n ≤ cap ∧ cap ≤ maxLen := by
  obtain ⟨ao, cap, rfl, _, h1, h2, _⟩ := h
  exact ⟨ao, cap, rfl, h1, h2⟩

theorem Sl.len {w : World} {e size n : Nat} {v : Value} {xs : List Value} (h : Sl w e size v n xs) : xs.length = n * size := by
  obtain ⟨ao, cap, rfl, h, _⟩ := h
  exact h

/-- Where there is an element the slice leads to a block. -/
theorem Sl.blk {w : World} {e size n : Nat} {v : Value} {xs : List Value} (h : Sl w e size v n xs) (hn : 0 < n) :
    ∃ g off cap cur, v = .slice (some ⟨g, off, none⟩) n cap ∧ n ≤ cap ∧ cap ≤ maxLen ∧ w.heap[g]? = some (.cells cur e (0, 0)) ∧ off + cap * size ≤ cur.size ∧ (cur.toList.drop off).take (n * size) = xs := by
  obtain ⟨ao, cap, rfl, _, h1, h2, h3⟩ := h
  rcases h3 with ⟨_, h0⟩ | ⟨g, off, cur, rfl, h4, h5, h6⟩
  · omega
  · exact ⟨g, off, cap, cur, rfl, h1, h2, h4, h5, h6⟩

/-- The cell of element (cell) j. -/
theorem Sl.cell {w : World} {e size n g off cap : Nat} {xs : List Value} (h : Sl w e size (.slice (some ⟨g, off, none⟩) n cap) n xs) (j : Nat) (hj : j < n * size) : w.cell? ⟨g, off + j, none⟩ = xs[j]? := by
  obtain ⟨ao, cap', hv, _, h1, h2, h3⟩ := h
  simp at hv
  obtain ⟨rfl, rfl⟩ := hv
  rcases h3 with ⟨h0, _⟩ | ⟨g', off', cur, h0, h4, h5, h6⟩
  · cases h0
  · simp at h0
    obtain ⟨rfl, rfl⟩ := h0
    rw [blk_cell h4, ← h6, List.getElem?_take, if_pos hj, List.getElem?_drop]
    simp

theorem Sl.free {w : World} {e size n g off cap : Nat} {xs : List Value} (h : Sl w e size (.slice (some ⟨g, off, none⟩) n cap) n xs) (j : Nat) : w.frozen? ⟨g, j, none⟩ = false := by
  obtain ⟨ao, cap', hv, _, h1, h2, h3⟩ := h
  simp at hv
  obtain ⟨rfl, rfl⟩ := hv
  rcases h3 with ⟨h0, _⟩ | ⟨g', off', cur, h0, h4, h5, h6⟩
  · cases h0
  · simp at h0
    obtain ⟨rfl, rfl⟩ := h0
    exact blk_free h4 j

theorem Sl.lt {w : World} {e size n : Nat} {v : Value} {xs : List Value} (h : Sl w e size v n xs) : ∀ k, v.ownBlock = some k → k < w.heap.size := by
  intro k hk
  obtain ⟨ao, cap, rfl, _, h1, h2, h3⟩ := h
  rcases h3 with ⟨rfl, _⟩ | ⟨g, off, cur, rfl, h4, h5, h6⟩
  · simp [Value.ownBlock] at hk
  · simp [Value.ownBlock] at hk
    subst hk
    exact blk_lt h4

theorem Sl.ne {w : World} {e size n : Nat} {v : Value} {xs : List Value} (h : Sl w e size v n xs) {b t : Nat} {c : Array Value} (hb : w.heap[b]? = some (.cells c t (0, 0))) (hne : e ≠ t) : ∀ k, v.ownBlock = some k → k ≠ b := by
  intro k hk e1
  subst e1
  obtain ⟨ao, cap, rfl, _, h1, h2, h3⟩ := h
  rcases h3 with ⟨rfl, _⟩ | ⟨g, off, cur, rfl, h4, h5, h6⟩
  · simp [Value.ownBlock] at hk
  · simp [Value.ownBlock] at hk
    subst hk
    rw [h4] at hb
    simp at hb
    exact hne hb.2

theorem Sl.keep {w w' : World} {e size n : Nat} {v : Value} {xs : List Value} (h : Sl w e size v n xs) (hk : ∀ k, v.ownBlock = some k → w'.heap[k]? = w.heap[k]?) : Sl w' e size v n xs := by
  obtain ⟨ao, cap, rfl, h0, h1, h2, h3⟩ := h
  refine ⟨ao, cap, rfl, h0, h1, h2, ?_⟩
  rcases h3 with h3 | ⟨g, off, cur, rfl, h4, h5, h6⟩
  · exact .inl h3
  · exact .inr ⟨g, off, cur, rfl, by rw [hk g rfl]; exact h4, h5, h6⟩

theorem Fr.sl {F : Nat → Prop} {w w' : World} (h : Fr F w w') {e size n : Nat} {v : Value} {xs : List Value} (ho : Sl w e size v n xs) (hF : ∀ k, v.ownBlock = some k → ¬ F k) : Sl w' e size v n xs :=
  ho.keep fun k hk => h.block k (ho.lt k hk) (hF k hk)

theorem Sl.alloc {w : World} {e size n : Nat} {v : Value} {xs : List Value} (h : Sl w e size v n xs) (o : Obj) : Sl (w.alloc o) e size v n xs :=
  h.keep fun k hk => Below.heap_alloc _ _ _ (h.lt k hk)

theorem Sl.drewN {w : World} {e size n : Nat} {v : Value} {xs : List Value} (h : Sl w e size v n xs) (m : Nat) : Sl (w.drewN m) e size v n xs := h.keep fun _ _ => rfl

theorem Sl.set_other {w : World} {e size n : Nat} {v : Value} {xs : List Value} (h : Sl w e size v n xs) {a : Addr} (u : Value) (hne : ∀ k, v.ownBlock = some k → k ≠ a.block) : Sl (w.setCell a u) e size v n xs :=
  h.keep fun k hk => Below.heap_setCell _ _ _ _ (hne k hk)

/-- A store into an element. -/
theorem Sl.store {w : World} {e size n g off cap : Nat} {xs : List Value} (h : Sl w e size (.slice (some ⟨g, off, none⟩) n cap) n xs) (j : Nat) (hj : j < n * size) (u : Value) :
    Sl (w.setCell ⟨g, off + j, none⟩ u) e size (.slice (some ⟨g, off, none⟩) n cap) n (xs.set j u) := by
  obtain ⟨ao, cap', hv, h0, h1, h2, h3⟩ := h
  simp at hv
  obtain ⟨rfl, rfl⟩ := hv
  rcases h3 with ⟨h3, _⟩ | ⟨g', off', cur, h3, h4, h5, h6⟩
  · cases h3
  · simp at h3
    obtain ⟨rfl, rfl⟩ := h3
    refine ⟨_, _, rfl, by simpa using h0, h1, h2, .inr ⟨g, off, _, rfl, blk_set h4 _ u, by simpa using h5, ?_⟩⟩
    rw [Array.toList_setIfInBounds, ← h6]
    apply List.ext_getElem?
    intro i
    simp only [List.getElem?_take, List.getElem?_drop, List.getElem?_set]
    have hl : (List.take (n * size) (List.drop off cur.toList)).length = n * size := by rw [h6]; exact h0
    by_cases hi : i < n * size
    · rw [if_pos hi, if_pos hi]
      by_cases he : j = i
      · subst he
        have hnc : n * size ≤ cap * size := Nat.mul_le_mul_right _ h1
        rw [if_pos rfl, if_pos rfl, if_pos (by simp; omega), if_pos (by omega)]
      · rw [if_neg (by omega), if_neg he]
    · rw [if_neg hi, if_neg (by omega), if_neg hi]

theorem add_lit' (g off j : Nat) : (⟨g, off, none⟩ : Addr).add j = ⟨g, off + j, none⟩ := Addr.add_lit _ _ _

/-- APPEND: whatever the slice (nil, with room, without). -/
theorem run_append_sl {P : Program} (w : World) (t ty e : TypeId) (i : TypeInfo) (z : Value) (size bytes : Nat) (ht : P.underlying t = some (.slice e)) (hi : P.info? e = some i) (hz : i.zero = some z)
    (hsize : i.size = size) (hby : i.bytes = bytes) (hzs : z.cells.size = size) (hsz : 0 < size)
    (v : Value) (n : Nat) (xs : List Value) (hs : Sl w e size v n xs)
    (a : Addr) (m c : Nat) (news : List Value) (hl : news.length = m * size) (hnews : ∀ j u, news[j]? = some u → w.cell? (a.add j) = some u) (h1 : ∀ u ∈ news, u.oneCell' = true)
    (h63 : n + m ≤ maxLen) (hbytes : (n + m) * bytes ≤ 140737488355328) :
    ∃ v' w', (Builtin.append_ #[t, t] ty #[v, .slice (some a) m c]).run P w = .ok v' w' ∧ Sl w' e size v' (n + m) (xs ++ news) ∧ Fr (fun k => v.ownBlock = some k) w w' ∧
      (v'.ownBlock = v.ownBlock ∨ v'.ownBlock = some w.heap.size) := by
  subst hsize
  subst hby
  have hlen : (xs ++ news).length = (n + m) * i.size := by rw [List.length_append, hs.len, hl, Nat.add_mul]
  obtain ⟨ao, cap, rfl, h0, hnc, hcm, h3⟩ := hs
  have grown : ∀ (old : Nat), old < n + m →
      Sl (w.drew.alloc (.cells (xs.toArray ++ news.toArray ++ Builtin.zeroCells z.cells (grownCap w (n + m) old e - (n + m))) e)) e i.size (.slice (some ⟨w.heap.size, 0, none⟩) (n + m) (grownCap w (n + m) old e)) (n + m) (xs ++ news) := by
    intro old ho
    have hge := grownCap_ge w (n + m) old e
    have hcm : grownCap w (n + m) old e ≤ maxLen := grownCap_le_maxLen w (n + m) old e h63
    refine ⟨_, _, rfl, hlen, hge, hcm, .inr ⟨w.heap.size, 0, _, rfl, heap_alloc_new w.drew _, ?_, ?_⟩⟩
    · simp only [Array.size_append, List.size_toArray, size_zeroCells, hzs, h0, hl, ← Nat.add_mul, Nat.zero_add]
      apply Nat.mul_le_mul_right
      omega
    · simp only [Array.toList_append, List.append_assoc, List.drop_zero]
      rw [← List.append_assoc, ← hlen]
      exact List.take_left
  have frg : ∀ (o : Obj) (F : Nat → Prop), Fr F w (w.drew.alloc o) := fun o F => ((Fr.refl F w).drew).alloc o
  rcases h3 with ⟨rfl, rfl⟩ | ⟨g, off, cur, rfl, hg, hfit0, htake⟩
  · obtain rfl : n = 0 := by omega
    have hx : xs = [] := List.eq_nil_of_length_eq_zero (by simpa using h0)
    subst hx
    by_cases hm : m = 0
    · subst hm
      have hn : news = [] := List.eq_nil_of_length_eq_zero (by simpa using hl)
      subst hn
      refine ⟨.slice none 0 0, w, ?_, Sl.nil w e i.size, Fr.refl _ _, .inl rfl⟩
      simp [Builtin.append_, run_underlying ht, sizeOf, typeInfo, hi, Builtin.lenOf, Builtin.firstCells, loadCells, loadCellsFrom]
    · have hr := run_append_nil (P := P) w t ty e i z ht hi hz a m c news hl hnews (by omega) (by simp only [maxLen] at h63; omega) (by have hb := hbytes; simp only [Nat.zero_add] at hb; omega)
      have hgr := grown 0 (by omega)
      simp only [Nat.zero_add, List.nil_append, Array.empty_append] at hgr ⊢
      exact ⟨_, _, hr, hgr, frg _ _, .inr rfl⟩
  · by_cases hroom : n + m ≤ cap
    · have hsp : (n + m) * i.size ≤ cap * i.size := Nat.mul_le_mul_right _ hroom
      rw [Nat.add_mul] at hsp
      have hf := run_firstCells_some (P := P) w i.size m a m c news hl hnews
      have hst := run_storeCells_at P g (off + n * i.size) e news 0 cur w hg (by simp only [Nat.add_zero]; omega) h1
      simp only [Nat.add_zero] at hst
      refine ⟨.slice (some ⟨g, off, none⟩) (n + m) cap, w.setRow g (cur.toList.take (off + n * i.size) ++ news ++ cur.toList.drop (off + n * i.size + news.length)).toArray, ?_, ⟨_, _, rfl, hlen, hroom, hcm, .inr ⟨g, off, _, rfl, setRow_heap w g cur _ e _ hg, ?_, ?_⟩⟩, ⟨rfl, rfl, rfl, by simp, fun k _ hk => setRow_other w g k _ (fun e => hk (by simp [Value.ownBlock, e]))⟩, .inl rfl⟩
      · simp [Builtin.append_, run_underlying ht, sizeOf, typeInfo, hi, Builtin.lenOf, hroom, hf, Addr.add_lit, hst]
      · simp only [List.size_toArray, List.length_append, List.length_take, List.length_drop, Array.length_toList]
        omega
      · simp only [List.append_assoc]
        rw [List.drop_append_of_le_length (by simp; omega)]
        have e1 : List.drop off (List.take (off + n * i.size) cur.toList) = xs := by
          rw [List.drop_take, show off + n * i.size - off = n * i.size by omega]; exact htake
        rw [e1, ← List.append_assoc, ← hlen]
        exact List.take_left
    · have holds : ∀ j u, xs[j]? = some u → w.cell? ((⟨g, off, none⟩ : Addr).add j) = some u := by
        intro j u hu
        have hj : j < n * i.size := by
          have := (List.getElem?_eq_some_iff.1 hu).1
          omega
        rw [Addr.add_lit, blk_cell hg, ← hu, ← htake, List.getElem?_take, if_pos hj, List.getElem?_drop]
        simp
      have hr := run_append_grow (P := P) w t ty e i z ht hi hz ⟨g, off, none⟩ n cap xs h0 holds a m c news hl hnews (by omega) (by simp only [maxLen] at h63; omega) (growslice_fits (by omega) hbytes)
      exact ⟨_, _, hr, grown cap (by omega), frg _ _, .inr rfl⟩

theorem wpList_append_sl {P : Program} {w : World} {ops : Array Oper} {rest : List Oper} {o : Oper} {a : Act} {Q : Exit → Act → World → Prop} (hgd : o.guard = none) (s x : Operand) (t : TypeId)
    (ho : o.op = .call { callee := .builtin .append, args := #[s, x], argTypes := #[t, t] })
    (e : TypeId) (i : TypeInfo) (z : Value) (size bytes : Nat) (ht : P.underlying t = some (.slice e)) (hi : P.info? e = some i) (hz : i.zero = some z)
    (hsize : i.size = size) (hby : i.bytes = bytes) (hzs : z.cells.size = size) (hsz : 0 < size)
    (v : Value) (n : Nat) (xs : List Value) (hs : a.eval s = v) (hown : Sl w e size v n xs)
    (ad : Addr) (m c : Nat) (news : List Value) (hx : a.eval x = .slice (some ad) m c) (hl : news.length = m * size) (hnews : ∀ j u, news[j]? = some u → w.cell? (ad.add j) = some u) (h1 : ∀ u ∈ news, u.oneCell' = true)
    (h63 : n + m ≤ maxLen) (hbytes : (n + m) * bytes ≤ 140737488355328)
    (h : ∀ v' w', Sl w' e size v' (n + m) (xs ++ news) → Fr (fun k => v.ownBlock = some k) w w' → (v'.ownBlock = v.ownBlock ∨ v'.ownBlock = some w.heap.size) → wpList P ops Q rest (a.put o.dst v') w') : wpList P ops Q (o :: rest) a w := by
  refine wpList_plain hgd fun K hK => ?_
  obtain ⟨v', w', hr, h2, h3, h4⟩ := run_append_sl (P := P) w t o.type e i z size bytes ht hi hz hsize hby hzs hsz v n xs hown ad m c news hl hnews h1 h63 hbytes
  unfold Oper.wp execOp
  simp only [ho, resolve, invoke, builtin, Sem.run_bind, Sem.run_pure, Result.andThen_ok, List.map_toArray, List.map_cons, List.map_nil, hs, hx, hr]
  exact hK _ _ (h v' w' h2 h3 h4)

/-! ### A slice that is read: n elements, whose cells are xs; of its memory nothing else is known. -/
def Rd (w : World) (size : Nat) (v : Value) (n : Nat) (xs : List Value) : Prop :=
  ∃ ao cap, v = .slice ao n cap ∧ xs.length = n * size ∧ n ≤ cap ∧ cap ≤ maxLen ∧ (ao = none → cap = 0) ∧
    (0 < n → ∃ g off, ao = some ⟨g, off, none⟩ ∧ ∀ j, j < n * size → w.cell? ⟨g, off + j, none⟩ = xs[j]?)

theorem Rd.len {w : World} {size n : Nat} {v : Value} {xs : List Value} (h : Rd w size v n xs) : xs.length = n * size := by
  obtain ⟨ao, cap, rfl, h, _⟩ := h
  exact h

theorem Rd.shape {w : World} {size n : Nat} {v : Value} {xs : List Value} (h : Rd w size v n xs) : ∃ ao cap, v = .slice ao n cap ∧ n ≤ cap ∧ cap ≤ maxLen := by
  obtain ⟨ao, cap, rfl, _, h1, h2, _⟩ := h
  exact ⟨ao, cap, rfl, h1, h2⟩

theorem Sl.rd {w : World} {e size n : Nat} {v : Value} {xs : List Value} (h : Sl w e size v n xs) : Rd w size v n xs := by
  have h' := h
  obtain ⟨ao, cap, rfl, h0, h1, h2, h3⟩ := h
  refine ⟨ao, cap, rfl, h0, h1, h2, ?_, fun hn => ?_⟩
  · rintro rfl
    rcases h3 with ⟨_, h⟩ | ⟨g, off, cur, h, _⟩
    · exact h
    · cases h
  · rcases h3 with ⟨_, h⟩ | ⟨g, off, cur, rfl, _⟩
    · omega
    · exact ⟨g, off, rfl, fun j hj => h'.cell j hj⟩

/-- Where there is an element. -/
theorem Rd.at {w : World} {size n : Nat} {v : Value} {xs : List Value} (h : Rd w size v n xs) (hn : 0 < n) :
    ∃ g off cap, v = .slice (some ⟨g, off, none⟩) n cap ∧ n ≤ cap ∧ cap ≤ maxLen ∧ ∀ j, j < n * size → w.cell? ⟨g, off + j, none⟩ = xs[j]? := by
  obtain ⟨ao, cap, rfl, h0, h1, h2, _, h4⟩ := h
  obtain ⟨g, off, rfl, h5⟩ := h4 hn
  exact ⟨g, off, cap, rfl, h1, h2, h5⟩

theorem Rd.below {w w' : World} {size n : Nat} {v : Value} {xs : List Value} (h : Rd w size v n xs) {B : Nat} (hB : w.heap.size ≤ B) (hb : Below B w w') : Rd w' size v n xs := by
  obtain ⟨ao, cap, rfl, h0, h1, h2, h3, h4⟩ := h
  refine ⟨ao, cap, rfl, h0, h1, h2, h3, fun hn => ?_⟩
  obtain ⟨g, off, rfl, h5⟩ := h4 hn
  refine ⟨g, off, rfl, fun j hj => ?_⟩
  have e := h5 j hj
  rw [List.getElem?_eq_getElem (by omega)] at e
  have hlt := World.block_lt_of_cell? w _ e
  rw [hb.cell (by omega : (⟨g, off + j, none⟩ : Addr).block < B)]
  exact h5 j hj

theorem Rd.take {w : World} {size n : Nat} {ao : Option Addr} {cap : Nat} {xs : List Value} (h : Rd w size (.slice ao n cap) n xs) {k : Nat} (hk : k ≤ n) : Rd w size (.slice ao k cap) k (xs.take (k * size)) := by
  obtain ⟨ao', cap', hv, h0, h1, h2, h3, h4⟩ := h
  simp at hv
  obtain ⟨rfl, rfl⟩ := hv
  have hm : k * size ≤ n * size := Nat.mul_le_mul_right _ hk
  refine ⟨ao, cap, rfl, by rw [List.length_take]; omega, by omega, h2, h3, fun hn => ?_⟩
  obtain ⟨g, off, rfl, h5⟩ := h4 (by omega)
  refine ⟨g, off, rfl, fun j hj => ?_⟩
  rw [h5 j (by omega), List.getElem?_take, if_pos hj]

/-- 'xs[k:]': where nothing is left up to the capacity the model keeps the array's own address. -/
theorem Rd.drop {w : World} {size n g off cap : Nat} {xs : List Value} (h : Rd w size (.slice (some ⟨g, off, none⟩) n cap) n xs) {k : Nat} (hk : k ≤ n) :
    Rd w size (.slice (if cap = k then some ⟨g, off, none⟩ else some ⟨g, off + k * size, none⟩) (n - k) (cap - k)) (n - k) (xs.drop (k * size)) := by
  obtain ⟨ao', cap', hv, h0, h1, h2, h3, h4⟩ := h
  simp at hv
  obtain ⟨rfl, rfl⟩ := hv
  have hm : k * size ≤ n * size := Nat.mul_le_mul_right _ hk
  refine ⟨_, _, rfl, by rw [List.length_drop, h0, Nat.sub_mul], by omega, by omega, (by split <;> (intro h; cases h)), fun hn => ?_⟩
  obtain ⟨g', off', hv, h5⟩ := h4 (by omega)
  simp at hv
  obtain ⟨rfl, rfl⟩ := hv
  rw [if_neg (by omega)]
  refine ⟨g, off + k * size, rfl, fun j hj => ?_⟩
  rw [Nat.sub_mul] at hj
  rw [List.getElem?_drop, Nat.add_assoc, h5 _ (by omega)]

/-- APPEND of a nil slice: nothing is done. -/
theorem run_append_sl_none {P : Program} (w : World) (t ty e : TypeId) (i : TypeInfo) (size : Nat) (ht : P.underlying t = some (.slice e)) (hi : P.info? e = some i)
    (hsize : i.size = size) (v : Value) (n : Nat) (xs : List Value) (hs : Sl w e size v n xs) :
    (Builtin.append_ #[t, t] ty #[v, .slice none 0 0]).run P w = .ok v w := by
  subst hsize
  obtain ⟨ao, cap, rfl, h0, hnc, hcm, h3⟩ := hs
  have hroom : n + 0 ≤ cap := by omega
  rcases h3 with ⟨rfl, rfl⟩ | ⟨g, off, cur, rfl, hg, hfit0, htake⟩
  · obtain rfl : n = 0 := by omega
    simp [Builtin.append_, run_underlying ht, sizeOf, typeInfo, hi, Builtin.lenOf, Builtin.firstCells]
  · simp [Builtin.append_, run_underlying ht, sizeOf, typeInfo, hi, Builtin.lenOf, Builtin.firstCells, hnc, storeCells]

theorem run_append_sl_rd {P : Program} (w : World) (t ty e : TypeId) (i : TypeInfo) (z : Value) (size bytes : Nat) (ht : P.underlying t = some (.slice e)) (hi : P.info? e = some i) (hz : i.zero = some z)
    (hsize : i.size = size) (hby : i.bytes = bytes) (hzs : z.cells.size = size) (hsz : 0 < size)
    (v : Value) (n : Nat) (xs : List Value) (hs : Sl w e size v n xs)
    (x : Value) (m : Nat) (news : List Value) (hx : Rd w size x m news) (h1 : ∀ u ∈ news, u.oneCell' = true)
    (h63 : n + m ≤ maxLen) (hbytes : (n + m) * bytes ≤ 140737488355328) :
    ∃ v' w', (Builtin.append_ #[t, t] ty #[v, x]).run P w = .ok v' w' ∧ Sl w' e size v' (n + m) (xs ++ news) ∧ Fr (fun k => v.ownBlock = some k) w w' ∧
      (v'.ownBlock = v.ownBlock ∨ v'.ownBlock = some w.heap.size) := by
  obtain ⟨ao, cap, rfl, h0, h2, h3, h4, h5⟩ := hx
  cases ao with
  | none =>
    obtain rfl := h4 rfl
    obtain rfl : m = 0 := by omega
    have hn : news = [] := List.eq_nil_of_length_eq_zero (by simpa using h0)
    subst hn
    exact ⟨v, w, run_append_sl_none w t ty e i size ht hi hsize v n xs hs, by simpa using hs, Fr.refl _ _, .inl rfl⟩
  | some a =>
    refine run_append_sl w t ty e i z size bytes ht hi hz hsize hby hzs hsz v n xs hs a m cap news h0 (fun j u hj => ?_) h1 h63 hbytes
    have hj' := (List.getElem?_eq_some_iff.1 hj).1
    have hm : 0 < m := by
      rcases Nat.eq_zero_or_pos m with rfl | h
      · simp at h0; simp [h0] at hj'
      · exact h
    obtain ⟨g, off, ha, h6⟩ := h5 hm
    simp at ha
    subst ha
    rw [Addr.add_lit, h6 j (by omega)]
    exact hj

theorem wpList_append_sl_rd {P : Program} {w : World} {ops : Array Oper} {rest : List Oper} {o : Oper} {a : Act} {Q : Exit → Act → World → Prop} (hgd : o.guard = none) (s x : Operand) (t : TypeId)
    (ho : o.op = .call { callee := .builtin .append, args := #[s, x], argTypes := #[t, t] })
    (e : TypeId) (i : TypeInfo) (z : Value) (size bytes : Nat) (ht : P.underlying t = some (.slice e)) (hi : P.info? e = some i) (hz : i.zero = some z)
    (hsize : i.size = size) (hby : i.bytes = bytes) (hzs : z.cells.size = size) (hsz : 0 < size)
    (v : Value) (n : Nat) (xs : List Value) (hs : a.eval s = v) (hown : Sl w e size v n xs)
    (y : Value) (m : Nat) (news : List Value) (hx : a.eval x = y) (hrd : Rd w size y m news) (h1 : ∀ u ∈ news, u.oneCell' = true)
    (h63 : n + m ≤ maxLen) (hbytes : (n + m) * bytes ≤ 140737488355328)
    (h : ∀ v' w', Sl w' e size v' (n + m) (xs ++ news) → Fr (fun k => v.ownBlock = some k) w w' → (v'.ownBlock = v.ownBlock ∨ v'.ownBlock = some w.heap.size) → wpList P ops Q rest (a.put o.dst v') w') : wpList P ops Q (o :: rest) a w := by
  refine wpList_plain hgd fun K hK => ?_
  obtain ⟨v', w', hr, h2, h3, h4⟩ := run_append_sl_rd (P := P) w t o.type e i z size bytes ht hi hz hsize hby hzs hsz v n xs hown y m news hrd h1 h63 hbytes
  unfold Oper.wp execOp
  simp only [ho, resolve, invoke, builtin, Sem.run_bind, Sem.run_pure, Result.andThen_ok, List.map_toArray, List.map_cons, List.map_nil, hs, hx, hr]
  exact hK _ _ (h v' w' h2 h3 h4)

end Go.Proofs.YtkhjdcnlpablkaaDoor
