/- The marked mailbox: Swap. -/
import Derived.Test.YtgijaehmffojhaaGather
import Derived.Test.YtgijaehmffojhaaMark2
namespace Go.Proofs.Ytgijaehmffojhaa
open Go.RowKit Go.Shelf
attribute [local go_sem] Oper.semAt_some

/-- The nodes, with other words. -/
def swapN (ns : List (Nat × Int)) (vs : List Int) : List (Nat × Int) := List.zipWith (fun m v => (m.1, v)) ns vs

/-- The words when j of the nodes have got theirs. -/
def mixed (ns : List (Nat × Int)) (vs : List Int) (j : Nat) : List Int := vs.take j ++ (ns.map (·.2)).drop j

theorem swapN_fst {ns : List (Nat × Int)} {vs : List Int} (h : vs.length = ns.length) : (swapN ns vs).map (·.1) = ns.map (·.1) := by
  unfold swapN
  rw [List.map_zipWith]
  apply List.ext_getElem?
  intro i
  simp only [List.getElem?_zipWith, List.getElem?_map]
  cases h1 : ns[i]? with
  | none => simp
  | some m =>
    have h2 : i < vs.length := by have := (List.getElem?_eq_some_iff.1 h1).1; omega
    simp [List.getElem?_eq_getElem h2]

theorem swapN_snd {ns : List (Nat × Int)} {vs : List Int} (h : vs.length = ns.length) : (swapN ns vs).map (·.2) = vs := by
  unfold swapN
  rw [List.map_zipWith]
  apply List.ext_getElem?
  intro i
  simp only [List.getElem?_zipWith]
  cases h1 : vs[i]? with
  | none => simp
  | some m =>
    have h2 : i < ns.length := by have := (List.getElem?_eq_some_iff.1 h1).1; omega
    simp [List.getElem?_eq_getElem h2]

theorem pos_fst {ns ms : List (Nat × Int)} (h : ns.map (·.1) = ms.map (·.1)) (k : Nat) : pos ns k = pos ms k := by
  cases k with
  | zero => rfl
  | succ k =>
    have h1 : (ns.map (·.1))[k]? = (ms.map (·.1))[k]? := by rw [h]
    simpa [pos, List.getElem?_map] using h1

theorem mixed_len {ns : List (Nat × Int)} {vs : List Int} (h : vs.length = ns.length) (j : Nat) : (mixed ns vs j).length = ns.length := by
  unfold mixed; simp; omega

theorem swapN_self (ns : List (Nat × Int)) : swapN ns (ns.map (·.2)) = ns := by
  unfold swapN
  apply List.ext_getElem?
  intro i
  simp only [List.getElem?_zipWith, List.getElem?_map]
  cases h1 : ns[i]? <;> simp

theorem swapN_at {ns : List (Nat × Int)} {vs : List Int} {i b : Nat} {x v : Int} (h1 : ns[i]? = some (b, x)) (h2 : vs[i]? = some v) : (swapN ns vs)[i]? = some (b, v) := by
  unfold swapN
  rw [List.getElem?_zipWith, h1, h2]

theorem mixed_at {ns : List (Nat × Int)} {vs : List Int} {j b : Nat} {x : Int} (h : vs.length = ns.length) (h1 : ns[j]? = some (b, x)) : (mixed ns vs j)[j]? = some x := by
  have hj := (List.getElem?_eq_some_iff.1 h1).1
  unfold mixed
  rw [List.getElem?_append_right (by simp; omega)]
  simp
  rw [show j - min j vs.length = 0 by omega]
  simp [h1]

theorem mixed_next {ns : List (Nat × Int)} {vs : List Int} {j b : Nat} {x v : Int} (h : vs.length = ns.length) (h1 : ns[j]? = some (b, x)) (h2 : vs[j]? = some v) : mixed ns vs (j + 1) = (mixed ns vs j).set j v := by
  have hj := (List.getElem?_eq_some_iff.1 h1).1
  apply List.ext_getElem?
  intro i
  rw [List.getElem?_set]
  unfold mixed
  by_cases e : j = i
  · subst e
    rw [if_pos rfl, if_pos (by simp; omega), List.getElem?_append_left (by simp; omega), List.getElem?_take, if_pos (by omega), h2]
  · rw [if_neg e]
    by_cases hi : i < j
    · rw [List.getElem?_append_left (by simp; omega), List.getElem?_append_left (by simp; omega), List.getElem?_take, List.getElem?_take, if_pos (by omega), if_pos hi]
    · rw [List.getElem?_append_right (by simp; omega), List.getElem?_append_right (by simp; omega), List.getElem?_drop, List.getElem?_drop]
      congr 1
      simp
      omega

theorem swapN_next {ns : List (Nat × Int)} {vs : List Int} {j b : Nat} {x v : Int} (h : vs.length = ns.length) (h1 : ns[j]? = some (b, x)) (h2 : vs[j]? = some v) : swapN ns (mixed ns vs (j + 1)) = (swapN ns (mixed ns vs j)).set j (b, v) := by
  rw [mixed_next h h1 h2]
  unfold swapN
  apply List.ext_getElem?
  intro i
  rw [List.getElem?_set, List.getElem?_zipWith, List.getElem?_zipWith, List.getElem?_set]
  have hj := (List.getElem?_eq_some_iff.1 h1).1
  have hml := mixed_len h j
  by_cases e : j = i
  · subst e
    rw [if_pos rfl, if_pos rfl, if_pos (by omega), if_pos (by simp; omega), h1]
  · rw [if_neg e, if_neg e]

theorem Dl.setval {w : World} {p : Nat} {ns : List (Nat × Int)} {r3 r4 r5 r6 r7 r8 : Value} (h : Dl w p ns r3 r4 r5 r6 r7 r8) {j b : Nat} {x : Int} (hj : ns[j]? = some (b, x)) (v : Int) : Dl (w.setCell ⟨b, 0, none⟩ (.int .u64 v)) p (ns.set j (b, v)) r3 r4 r5 r6 r7 r8 := by
  have hfst : (ns.set j (b, v)).map (·.1) = ns.map (·.1) := by
    rw [List.map_set]
    apply List.ext_getElem?
    intro i
    rw [List.getElem?_set]
    by_cases e : j = i
    · subst e
      have hl := (List.getElem?_eq_some_iff.1 hj).1
      rw [if_pos rfl, if_pos (by simpa using hl)]
      simp [hj]
    · rw [if_neg e]
  have hp : ∀ k, pos (ns.set j (b, v)) k = pos ns k := pos_fst hfst
  refine ⟨?_, fun i c y hi => ?_, by rw [hfst]; exact h.nd⟩
  · rw [hp, hp, List.length_set, blk_set_other _ (Ne.symm (h.ne hj))]
    exact h.blk
  · rw [hp, hp]
    rw [List.getElem?_set] at hi
    by_cases e : j = i
    · subst e
      have hl := (List.getElem?_eq_some_iff.1 hj).1
      rw [if_pos rfl, if_pos hl] at hi
      simp at hi
      obtain ⟨rfl, rfl⟩ := hi
      rw [blk_set (h.nodes _ _ _ hj)]
      rfl
    · rw [if_neg e] at hi
      rw [blk_set_other _ (show c ≠ b from fun e' => by subst e'; exact e (nd_at h.nd hj hi)), h.nodes i c y hi]

theorem Nx.fst {w : World} {p : Nat} {ns ms : List (Nat × Int)} (e : ms.map (·.1) = ns.map (·.1)) (h : Nx w p ms) : Nx w p ns := by
  refine ⟨by rw [pos_fst e.symm]; exact h.head, fun i b x hi => ?_⟩
  have h1 : (ms.map (·.1))[i]? = some b := by rw [e]; simp [hi]
  rw [List.getElem?_map] at h1
  cases h2 : ms[i]? with
  | none => rw [h2] at h1; simp at h1
  | some m =>
    rw [h2] at h1
    simp at h1
    rw [pos_fst e.symm]
    exact h.next i b m.2 (by rw [h2, ← h1])

theorem Dl.own {w w' : World} {p : Nat} {ns : List (Nat × Int)} {r3 r4 r5 r6 r7 r8 : Value} {row : Option Nat} (h : Dl w p ns r3 r4 r5 r6 r7 r8) (hg : w.grownBy w' row) (hr : ∀ r, row = some r → ∃ o : Obj, w.heap[r]? = some o ∧ o.isCells = false) : Dl w' p ns r3 r4 r5 r6 r7 r8 :=
  ⟨own_blk h.blk hg hr, fun i b x hi => own_blk (h.nodes i b x hi) hg hr, h.nd⟩

set_option maxRecDepth 100000 in
set_option maxHeartbeats 3200000 in
theorem swap_gen (n : Nat) (p : Nat) (ns : List (Nat × Int)) (r3 r4 r5 r6 r7 r8 : Value) (w : World) (h : Dl w p ns r3 r4 r5 r6 r7 r8)
    (a : Option Addr) (c : Nat) (vs : List Int) (hs : Sl w 26 1 (.slice a ns.length c) ns.length (u64s vs)) :
    CallsIn Fence.wide (n + 3) Try.prog 30 #[.pointer (some ⟨p, 0, none⟩), .slice a ns.length c] w fun e w' => e = .returned (.int .i64 0) ∧ Dl w' p (swapN ns vs) r3 r4 r5 r6 r7 r8 ∧ Fr (df p ns) w w' := by
  have hvl : vs.length = ns.length := by have := hs.len; simpa [u64s] using this
  have HV := Lib.hid hvl
  have ND := Lib.hid h.nd
  obtain ⟨Y, hY⟩ : ∃ Y, w.heap.size = Y := ⟨_, rfl⟩
  obtain ⟨W1, hW1⟩ : ∃ W1, w.alloc (.cells #[.slice a ns.length c] 22) = W1 := ⟨_, rfl⟩
  have hy1 : W1.heap[Y]? = some (.cells #[.slice a ns.length c] 22 (0, 0)) := by subst hW1 hY; exact heap_alloc_new w _
  have hd1 : Dl W1 p ns r3 r4 r5 r6 r7 r8 := by subst hW1; exact h.keep ((Fr.refl (fun _ => False) w).alloc _) (fun _ _ h => h)
  have hs1 : Sl W1 26 1 (.slice a ns.length c) ns.length (u64s vs) := by subst hW1; exact hs.alloc _
  have hf1 : Fr (df p ns) w W1 := by subst hW1; exact (Fr.refl _ w).alloc _
  have hz1 : W1.heap.size = Y + 1 := by subst hW1; simp [hY]
  have cy := blk_cell hy1 0
  have c2 := blk_cell hd1.blk 2
  simp at cy c2
  have hmx : Try.prog.follows .mixedOrders = true := by kernel_rfl
  clear hvl
  refine callsIn_of_wp_marks Try.func30 rfl trivial ?_ rfl
  simp only [Try.ntmps30, List.size_toArray, List.length_cons, List.length_nil, Nat.reduceAdd, Nat.reduceSub, Array.replicate_succ, Array.replicate_zero, List.push_toArray, List.append_toArray, List.nil_append, List.cons_append]
  gi_wp2_with fail
  gi_quiet (fail)
  gi_wp2_with fail
  have hfst : ∀ j, (swapN ns (mixed ns vs j)).map (·.1) = ns.map (·.1) := fun j => swapN_fst (mixed_len HV.out j)
  generalize hW2 : W1.drewN nq = W2
  have hy2 : W2.heap[Y]? = some (.cells #[.slice a ns.length c] 22 (0, 0)) := by subst hW2; exact hy1
  have hd2 : Dl W2 p ns r3 r4 r5 r6 r7 r8 := by subst hW2; exact hd1.keep ((Fr.refl (fun _ => False) W1).drewN nq) (fun _ _ h => h)
  have hs2 : Sl W2 26 1 (.slice a ns.length c) ns.length (u64s vs) := by subst hW2; exact hs1.drewN nq
  have hf2 : Fr (df p ns) w W2 := by subst hW2; exact hf1.drewN nq
  have hz2' : W2.heap.size = Y + 1 := by subst hW2; exact hz1
  clear hW2 hy1 hd1 hs1 hf1 hz1 cy c2 hW1
  refine range_O rfl (by omega) (gf := 54) (bd := #[.pointer (some ⟨p, 0, none⟩)]) (lb := #[]) rfl trivial (enters_of Try.func54 (by kernel_rfl) rfl)
    (encs := fun m : Nat × Int => #[.pointer (some ⟨m.1, 0, none⟩)]) (Kp := KX p ns) (full := ns) (w0 := W2) (each_seq Fence.wide (Lib.hid rfl) trivial rfl _ p ns ND.out (KX p ns) (fun _ _ h => h) _ W2 hd2.nx)
    (fun h k x => k (h x)) (fun W l o o' _ hl ho h => h.own (grownBy_putObj' W l o') (fun r e => by cases e; exact ⟨o, hl, ho⟩)) (Below.refl _ _) (fun _ => rfl)
    (fun pre V => ∃ v, V.heap[Y]? = some (.cells #[v] 22 (0, 0)) ∧ Sl V 26 1 v (ns.length - pre.length) (u64s (vs.drop pre.length)) ∧ Dl V p (swapN ns (mixed ns vs pre.length)) r3 r4 r5 r6 r7 r8 ∧ Fr (df p ns) w V ∧ Y + 1 ≤ V.heap.size)
    (fun c pre V => False) ?hI ?hIx ?h0
    (fun m => { tmps := #[.pointer (some ⟨p, 0, none⟩), .slice a ns.length c, undef, .pointer (some ⟨Y, 0, none⟩), .int .i64 0, .pointer (some ⟨m.1, 0, none⟩), .bool false, .pointer (some ⟨p, 0, none⟩), .bool false, .bool false, .slice a ns.length c, .int .i64 ns.length,
      .pointer (some ⟨p, 0, none⟩), .pointer (some ⟨p, 0, none⟩), .pointer (some ⟨p, 0, none⟩), .pointer (some ⟨p, 2, none⟩), .int .i64 ns.length, .bool false, .pointer (some ⟨p, 0, none⟩), .pointer (some ⟨p, 0, none⟩), .pointer (some ⟨p, 0, none⟩),
      .func (.func 54) #[.pointer (some ⟨p, 0, none⟩)] #[], .pointer (some ⟨m.1, 0, none⟩), undef, undef, undef, undef, undef, undef, undef, undef], defers := [] }) ?assign ?body ?done ?stop
  case hI =>
    rintro s A C row ⟨v, h1, h2, h3, h4, h5⟩ hg hr
    have hr' := fun r e => (hr r e).2
    exact ⟨v, own_blk h1 hg hr', own_sl h2 hg hr', h3.own hg hr', h4.grown hg (fun k e => .inr (by have := (hr k e).1; omega)), Nat.le_trans h5 hg.size⟩
  case hIx => exact fun _ _ _ _ _ h => h.elim
  case h0 =>
    refine ⟨_, hy2, by simpa using hs2, ?_, hf2, by omega⟩
    have e : mixed ns vs ([] : List (Nat × Int)).length = ns.map (·.2) := by simp [mixed]
    rw [e, swapN_self]
    exact hd2
  case assign =>
    intro l2 m V K hK
    gi_wp2
    exact hK
  case stop => rintro D c pre V hD hpre h hK; exact h.elim
  case done =>
    rintro D V hD ⟨v, h1, h2, h3, h4, h5⟩ hK
    gi_wp2
    refine ⟨by simp, .inl ⟨_, _, rfl, run_takeDeferred hK, ?_⟩⟩
    refine ⟨_, results_tmp rfl _ _ _, rfl, ?_, ?_⟩
    · have e : mixed ns vs ns.length = vs := by
        have := HV.out
        unfold mixed
        rw [List.take_of_length_le (by omega), List.drop_of_length_le (by simp), List.append_nil]
      rw [e] at h3
      exact h3.own (grownBy_putObj' V D _) (fun r e => by cases e; exact ⟨_, hK, rfl⟩)
    · exact h4.grown (grownBy_putObj' V D _) (fun k e => .inr (by cases e; omega))
  case body =>
    rintro l2 pre ⟨b, x⟩ V ⟨v, h1, h2, h3, h4, h5⟩ hpre
    obtain ⟨j, hj⟩ : ∃ j, pre.length = j := ⟨_, rfl⟩
    have hbx : ns[j]? = some (b, x) := by
      obtain ⟨t, ht⟩ := hpre
      rw [← ht, ← hj]
      simp
    rw [hj] at h2 h3
    obtain ⟨m, hm⟩ : ∃ m, ns.length - j = m := ⟨_, rfl⟩
    rw [hm] at h2
    have hjl := (List.getElem?_eq_some_iff.1 hbx).1
    obtain ⟨u, hu⟩ : ∃ u, vs[j]? = some u := ⟨vs[j]'(by have := HV.out; omega), List.getElem?_eq_getElem _⟩
    have hms := swapN_at hbx (mixed_at HV.out hbx)
    have hms2 : (swapN ns (mixed ns vs j))[j]? = some (b, x) := hms
    obtain ⟨g, off, cap, cur, rfl, hcap, hmax, _, _, _⟩ := h2.blk (by omega)
    unfold maxLen at hmax
    obtain ⟨A, hA⟩ : ∃ A : Addr, (if cap = 1 then (⟨g, off, none⟩ : Addr) else ⟨g, off + 1, none⟩) = A := ⟨_, rfl⟩
    have hA2 : (if cap = 1 then some (⟨g, off, none⟩ : Addr) else some ⟨g, off + 1, none⟩) = some A := by rw [← hA]; split <;> rfl
    have hsd := Sl.drop h2 (k := 1) (by omega)
    rw [show (1 * 1 : Nat) = 1 from rfl, hA] at hsd
    have hsd2 : Sl V 26 1 (.slice (some A) (m - 1) (cap - 1)) (m - 1) (u64s (vs.drop (j + 1))) := by
      have e : (u64s (vs.drop j)).drop 1 = u64s (vs.drop (j + 1)) := by simp [u64s, List.map_drop, List.drop_drop]
      rw [← e]; exact hsd
    have d0 := h2.cell 0 (by omega)
    have e0 : (u64s (vs.drop j))[0]? = some (.int .u64 u) := by simp [u64s, List.getElem?_drop, hu]
    rw [e0, Nat.add_zero] at d0
    have hnb := h3.nodes _ _ _ hms
    have hbY : b ≠ Y := fun e => by rw [e, h1] at hnb; simp at hnb
    have hgY : g ≠ Y := h2.ne h1 (by decide) g rfl
    have hgb : g ≠ b := h2.ne hnb (by decide) g rfl
    have q0 : V.drew.cell? ⟨g, off, none⟩ = some (.int .u64 u) := d0
    have q1 : V.drew.cell? ⟨Y, 0, none⟩ = some (.slice (some ⟨g, off, none⟩) m cap) := by
      have := blk_cell (w := V.drew) h1 0
      simpa using this
    have q2 : V.drew.cell? ⟨b, 0, none⟩ = some (.int .u64 x) := by
      have := blk_cell (w := V.drew) hnb 0
      simpa using this
    have q3 : V.drew.frozen? ⟨b, 0, none⟩ = false := blk_free (w := V.drew) hnb 0
    have q4 : V.drew.frozen? ⟨Y, 0, none⟩ = false := blk_free (w := V.drew) h1 0
    have p1 : V.cell? ⟨Y, 0, none⟩ = some (.slice (some ⟨g, off, none⟩) m cap) := q1
    have p4 : V.frozen? ⟨Y, 0, none⟩ = false := q4
    have p2 : V.cell? ⟨b, 0, none⟩ = some (.int .u64 x) := q2
    have p3 : V.frozen? ⟨b, 0, none⟩ = false := q3
    have p0 : V.cell? ⟨g, off, none⟩ = some (.int .u64 u) := q0
    have hjn : 1 ≤ m := by omega
    have hjn2 : (1 : Int) ≤ (m : Int) := by omega
    have hjn3 : 0 < m := by omega
    have HMJ := Lib.hid (show ns.length - (j + 1) = m - 1 by omega)
    have hYb : Y ≠ b := Ne.symm hbY
    have hYg : Y ≠ g := Ne.symm hgY
    have hbg : b ≠ g := Ne.symm hgb
    obtain ⟨V3, hV3⟩ : ∃ V3, (V.drew.setCell ⟨b, 0, none⟩ (.int .u64 u)).setCell ⟨Y, 0, none⟩ (.slice (some A) (m - 1) (cap - 1)) = V3 := ⟨_, rfl⟩
    have r1 : V3.heap[Y]? = some (.cells #[.slice (some A) (m - 1) (cap - 1)] 22 (0, 0)) := by
      subst hV3
      rw [blk_set (w := V.drew.setCell ⟨b, 0, none⟩ (.int .u64 u)) (by rw [blk_set_other _ (show Y ≠ b from hYb)]; exact h1)]
      rfl
    have hbA : ∀ k, (Value.slice (some A) (m - 1) (cap - 1)).ownBlock = some k → k = g := fun k hk => by rw [← hA] at hk; split at hk <;> (simp [Value.ownBlock] at hk; exact hk.symm)
    have r2 : Sl V3 26 1 (.slice (some A) (m - 1) (cap - 1)) (m - 1) (u64s (vs.drop (j + 1))) := by
      subst hV3
      exact ((hsd2.drewN 1).set_other (a := ⟨b, 0, none⟩) _ (fun k hk => by rw [hbA k hk]; exact hgb)).set_other (a := ⟨Y, 0, none⟩) _ (fun k hk => by rw [hbA k hk]; exact hgY)
    have r3' : Dl V3 p (swapN ns (mixed ns vs (j + 1))) r3 r4 r5 r6 r7 r8 := by
      subst hV3
      rw [swapN_next HV.out hbx hu]
      have := (h3.keep ((Fr.refl (fun _ => False) V).drew) (fun _ _ h => h)).setval hms u
      refine this.keep (F := fun k => k = Y) ((Fr.refl (fun k => k = Y) _).setCell (p := ⟨Y, 0, none⟩) (.inl rfl) _) (fun k hk e => ?_)
      subst e
      rcases hk with e | hm
      · rw [e] at h1; rw [h3.blk] at h1; simp at h1
      · obtain ⟨i, y, hi⟩ := mem_at hm
        have hn2 := this.nodes i k y hi
        have hy3 : (V.drew.setCell ⟨b, 0, none⟩ (.int .u64 u)).heap[k]? = some (.cells #[.slice (some ⟨g, off, none⟩) m cap] 22 (0, 0)) := by
          rw [blk_set_other _ (show k ≠ b from hYb)]; exact h1
        rw [hn2] at hy3
        simp at hy3
    have hfv : Fr (fun k => k = b ∨ k = Y) V V3 := by
      subst hV3
      exact (((Fr.refl (fun k => k = b ∨ k = Y) V).drew).setCell (p := ⟨b, 0, none⟩) (.inl (.inl rfl)) _).setCell (p := ⟨Y, 0, none⟩) (.inl (.inr rfl)) _
    have r4' : Fr (df p ns) w V3 := h4.trans' hfv (fun k hk => by
      rcases hk with rfl | rfl
      · exact .inl (.inr (at_mem hbx))
      · exact .inr (by omega))
    have HO := Lib.hid (hfv.others (fun k hk _ => by
      rcases hk with rfl | rfl
      · exact ⟨_, _, _, hnb⟩
      · exact ⟨_, _, _, h1⟩))
    have hjp : (pre ++ [(b, x)]).length = j + 1 := by simp; omega
    have R1 := Lib.hid r1
    have R2 := Lib.hid r2
    have R3 := Lib.hid r3'
    have R4 := Lib.hid r4'
    have HF := Lib.hid hfst
    have h5' : Y + 1 ≤ V3.heap.size := Nat.le_trans h5 hfv.size
    have HV3 := Lib.hid hV3
    clear hV3 hm r1 r2 r3' r4' hfv h1 h2 h3 h4 hsd hsd2 d0 e0 hnb hms hms2 hbx hu hpre hy2 hd2 hs2 hf2 hbA hA hfst h
    gi_wp2_with fail
    gi_region_o
    all_goals
      rw [show ((V.setCell ⟨b, 0, none⟩ (.int .u64 u)).setCell ⟨Y, 0, none⟩ (.slice (some A) (m - 1) (cap - 1))).drew = V3 from HV3.out]
      gi_wp2_with fail
      refine ⟨HO.out.from _, fun _ => (R3.out.nx).fst (HF.out _), _, R1.out, ?_, ?_, R4.out, h5'⟩
      · rw [hjp, HMJ.out]; exact R2.out
      · rw [hjp]; exact R3.out

/-- Swap, where as many words are given as there are messages. -/
theorem Swap_yes (p : Nat) (mv : Value) (X : Bx) (w : World) (h : Mb w p mv X) (a : Option Addr) (c : Nat) (vs : List Int) (hs : Sl w 26 1 (.slice a X.ns.length c) X.ns.length (u64s vs)) :
    Calls Try.prog 30 #[.pointer (some ⟨p, 0, none⟩), .slice a X.ns.length c] w fun e w' => e = .returned (.int .i64 0) ∧ MPost p X.ns mv { X with ns := swapN X.ns vs } w w' := by
  have hvl : vs.length = X.ns.length := by have := hs.len; simpa [u64s] using this
  have hf := swapN_fst hvl
  have hlen : (swapN X.ns vs).length = X.ns.length := by have := congrArg List.length hf; simpa using this
  refine (callsIn_wide.1 (swap_gen 0 p X.ns _ _ _ _ _ _ w h.dl a c vs hs)).mono ?_
  rintro e w' ⟨rfl, hd, hfr⟩
  refine ⟨rfl, mv, ⟨?_, ?_, ?_, ?_, ?_⟩, hfr.mono (fun k hk => .inl hk), fun k hk => ?_⟩
  · show Dl w' p (swapN X.ns vs) _ _ (ptr (pos (swapN X.ns vs) X.last)) (ptr (pos (swapN X.ns vs) X.fro)) _ _
    rw [pos_fst hf, pos_fst hf]
    exact hd
  · have hm : ∀ ms : List (Int × Nat), mcs (swapN X.ns vs) ms = mcs X.ns ms := by
      intro ms
      induction ms with
      | nil => rfl
      | cons m ms ih => simp only [mcs]; rw [ih, pos_fst hf]
    show Sl w' 78 2 mv X.ms.length (mcs (swapN X.ns vs) X.ms)
    rw [hm]
    exact hfr.sl h.own (fun k hk hd' => by
      rcases hd' with e | hm'
      · exact h.nep k hk e
      · obtain ⟨i, x, hi⟩ := mem_at hm'
        exact h.nen hi k hk rfl)
  · show X.last ≤ (swapN X.ns vs).length; rw [hlen]; exact h.last
  · show X.fro ≤ (swapN X.ns vs).length; rw [hlen]; exact h.fro
  · intro m hm; show m.2 ≤ (swapN X.ns vs).length; rw [hlen]; exact h.mle m hm
  · rcases hk with (e | hk) | hk
    · exact .inl (.inl (.inl e))
    · rw [show (Bx.ns { X with ns := swapN X.ns vs }) = swapN X.ns vs from rfl, hf] at hk
      exact .inl (.inl (.inr hk))
    · exact .inl (.inr hk)

theorem Swap_no (p : Nat) (mv : Value) (X : Bx) (w : World) (h : Mb w p mv X) (a : Option Addr) (n c : Nat) (hn : n ≠ X.ns.length) :
    Calls Try.prog 30 #[.pointer (some ⟨p, 0, none⟩), .slice a n c] w fun e w' => e = .returned (.int .i64 1) ∧ MPost p X.ns mv X w w' := by
  have hsame := fun nq => h.same (((Below.refl w.heap.size w).alloc (Nat.le_refl _) (.cells #[.slice a n c] 22)).trans (bel_drewN (Below.refl _ _) nq))
  have h1 := h.keep ((Fr.refl (fun _ => False) w).alloc (.cells #[.slice a n c] 22)) (fun _ _ h => h)
  obtain ⟨Y, hY⟩ : ∃ Y, w.heap.size = Y := ⟨_, rfl⟩
  obtain ⟨W1, hW1⟩ : ∃ W1, w.alloc (.cells #[.slice a n c] 22) = W1 := ⟨_, rfl⟩
  have hy1 : W1.heap[Y]? = some (.cells #[.slice a n c] 22 (0, 0)) := by subst hW1 hY; exact heap_alloc_new w _
  rw [hW1] at h1
  have cy := blk_cell hy1 0
  have c2 := blk_cell h1.dl.blk 2
  simp at cy c2
  have ht2 : ((n : Int) != (X.ns.length : Int)) = true := by simp; omega
  have ht : ((n : Int) == (X.ns.length : Int)) = false := by simp; omega
  have HS := Lib.hid hsame
  have HW := Lib.hid hW1
  clear hsame
  go_enter Try.func30, Try.ntmps30
  go_wp2_with fail
  go_quiet (fail)
  clear hW1
  go_wp2
  go_ret
  exact ⟨rfl, by rw [← HW.out]; exact HS.out nq⟩
end Go.Proofs.Ytgijaehmffojhaa
