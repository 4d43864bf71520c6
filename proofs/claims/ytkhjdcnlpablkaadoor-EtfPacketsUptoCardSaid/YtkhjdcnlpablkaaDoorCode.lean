/- encode: the term at a place. The frame of this text is printed by genCode.py. -/
import Derived.Test.YtkhjdcnlpablkaaDoorRun
import Derived.Test.YtkhjdcnlpablkaaDoorOrd
import Derived.Lib.EndianBits
namespace Go.Proofs.YtkhjdcnlpablkaaDoor
open Go.RowKit
open Go.Lib (byteCells strCells)

theorem seqH_nil {P : Program} {ops : Array Oper} {Q : Exit → Act → World → Prop} {S : World → Prop} {a : Act} {w : World} (h : Q .normal a w) : wpSeqH P ops Q S [] a w := h

/-- APPEND inside a region: bytes that are built on the spot. -/
theorem wp_bytes {w : World} {o : Oper} {a : Act} {Q : Exit → Act → World → Prop} {K : Act → World → Prop} (s x : Operand) {B : Nat} {v : Value} {xs : List UInt8} (news : List UInt8) (cs : List Value) (m : Nat)
    (ho : o.op = .call { callee := .builtin .append, args := #[s, x], argTypes := #[22, 22] })
    (hs : a.eval s = v) (hx : a.eval x = .slice (some ⟨w.heap.size, 0, none⟩) m m) (h : Bs B w v xs) (hcs : cs = byteCells news) (hm : news.length = m) (hB : B ≤ w.heap.size) (hl : xs.length + m ≤ 1000000000000)
    (k : ∀ v' w', Wr B w v w' v' (xs ++ news) → K (a.put o.dst v') w') : o.wp Tryd.prog a (w.alloc (.cells cs.toArray 5)) K Q := by
  obtain ⟨i0, hinf, hz0, hz1, hz2⟩ := info_parts Tryd.info5
  subst hcs hm
  refine wp_append_sl s x 22 ho 5 i0 (.int .u8 0) 1 1 Tryd.underlying22 hinf hz0 hz1 hz2 rfl (by decide) v xs.length (byteCells xs) hs (h.sl.alloc _) ⟨w.heap.size, 0, none⟩ news.length news.length (byteCells news) hx
    (by rw [Lib.byteCells_length]; omega) (cells_new w _ 5) (fun u hu => Lib.byteCells_one news u hu) (by unfold maxLen; omega) (by omega) ?_
  intro v' w' hsl hfr hown
  have hF : Fr (fun q => v.ownBlock = some q) w w' := ((Fr.refl _ w).alloc _).trans hfr
  have hn : ∀ q, v'.ownBlock = some q → v.ownBlock = some q ∨ w.heap.size ≤ q := fun q hq => by
    rcases hown with e | e
    · exact .inl (e ▸ hq)
    · rw [e] at hq; simp at hq; exact .inr (by omega)
  refine k v' w' ⟨⟨?_, fun q hq => ?_⟩, hF.below hB fun q hq => h.own q hq, hF, hn⟩
  · rw [Lib.byteCells_append, List.length_append]; exact hsl
  · rcases hn q hq with e | e
    · exact h.own q e
    · omega

theorem wp_bytes_str {w : World} {o : Oper} {a : Act} {Q : Exit → Act → World → Prop} {K : Act → World → Prop} (s x : Operand) {B : Nat} {v : Value} {xs : List UInt8} (str : ByteArray)
    (ho : o.op = .call { callee := .builtin .append, args := #[s, x], argTypes := #[22, 9] })
    (hs : a.eval s = v) (hx : a.eval x = .string str) (h : Bs B w v xs) (hB : B ≤ w.heap.size) (hl : xs.length + str.size ≤ 140737488355328)
    (k : ∀ v' w', Wr B w v w' v' (xs ++ str.data.toList) → K (a.put o.dst v') w') : o.wp Tryd.prog a w K Q := by
  obtain ⟨i0, hinf, hz0, hz1, hz2⟩ := info_parts Tryd.info5
  obtain ⟨v', w', hr, h2, h3, h4⟩ := run_append_sl_str (P := Tryd.prog) w 22 9 o.type 5 i0 Tryd.underlying22 Tryd.underlying9 hinf hz0 hz1 hz2 v xs.length (byteCells xs) h.sl str (by unfold maxLen; omega) hl
  unfold Oper.wp execOp
  simp only [ho, resolve, invoke, builtin, Sem.run_bind, Sem.run_pure, Result.andThen_ok, List.map_toArray, List.map_cons, List.map_nil, hs, hx, hr]
  refine k v' w' ⟨⟨?_, fun q hq => ?_⟩, h3.below hB fun q hq => h.own q hq, h3, h4⟩
  · rw [Lib.byteCells_append, List.length_append, ← Lib.strCells_eq]
    simpa using h2
  · rcases h4 q hq with e | e
    · exact h.own q e
    · omega

/-- What encode leaves. -/
def EPost (B : Nat) (w : World) (bv : Value) (ys : List UInt8) (n : Nat) (e : Ending) (w' : World) : Prop := ∃ v', e = .returned (.tuple #[v', .int .i64 (n : Int)]) ∧ Wr B w bv w' v' ys

def ENC (t : List Ce) (tv : Value) (a : T) : Prop := ∀ (B : Nat) (w : World) (bv : Value) (xs : List UInt8) (at' : Nat) (r : List Ce), B ≤ w.heap.size → RdU B w 3 tv t.length (cvs t) → Bs B w bv xs → xs.length + 1040 * a.sz ≤ 1000000000 →
  t.drop at' = a.cells ++ r → Calls Tryd.prog 35 #[bv, tv, .int .i64 at'] w (EPost B w bv (xs ++ a.enc) (at' + a.sz))
def ENCL (t : List Ce) (tv : Value) (a : T) : Prop := ∀ (B : Nat) (w : World) (bv : Value) (xs : List UInt8) (at' : Nat) (r : List Ce), B ≤ w.heap.size → RdU B w 3 tv t.length (cvs t) → Bs B w bv xs → xs.length + 1040 * a.sz ≤ 1000000000 →
  t.drop at' = a.cells ++ r → Calls Tryd.prog 70 #[bv, tv, .int .i64 at'] w (EPost B w bv (xs ++ a.enc) (at' + a.sz))

theorem node_size : nodeS.size = 13 := rfl

theorem i64_mask32 (n : Int) (h0 : 0 ≤ n) (h1 : n < 4611686018427387904) : bits .and .i64 n 4294967295 = n % 4294967296 :=
  bits_mask .i64 62 (by decide) wraps_i64 32 (by decide) n h0 (by omega)

/-- The box of a cell lies apart from the bytes. -/
theorem Wr.box {B : Nat} {w w' : World} {v v' : Value} {xs ys : List UInt8} (h : Wr B w v w' v' ys) (hb : Bs B w v xs) {b : Nat} {c : Array Value} (hx : w.heap[b]? = some (.cells c 60 (0, 0))) : w'.heap[b]? = some (.cells c 60 (0, 0)) :=
  h.fr.at hx (fun e => hb.sl.ne hx (by decide) _ e rfl)

set_option maxHeartbeats 6400000 in
set_option maxRecDepth 100000 in
theorem enc_leaf_any (t : List Ce) (tv : Value) (hN : ∀ c ∈ t, -9223372036854775808 ≤ c.n ∧ c.n ≤ 9223372036854775807) (c : Ce) (hw : (T.leaf c).wf) : ENC t tv (.leaf c) := by
  intro B w bv xs at' r hB hR hbs hl hd
  obtain ⟨ao, cap, rfl, hcap, hmax⟩ := hR.now.shape
  unfold maxLen at hmax
  have hmem := drop_fst hd
  have hat := (List.getElem?_eq_some_iff.1 hmem).1
  have hrd := hR.now
  obtain ⟨g0, off, cap', hv, hq1, hq2, hq3⟩ := hrd.at (by omega)
  clear hq1 hq2 hq3
  simp at hv
  obtain ⟨rfl, rfl⟩ := hv
  obtain ⟨c0, c1, c2⟩ := rd_cell hrd rfl hmem
  have hn := hN c (List.mem_of_getElem? hmem)
  obtain ⟨hE, h5, h7⟩ := hw
  have hk := E_kind hE
  have hr := E_rest hE
  obtain ⟨k, n, s⟩ := c
  simp only [T.fst] at c0 c1 c2
  simp only at hk h5 h7 hr hn
  have hfs : (at' : Int) < (t.length : Int) := by omega
  rw [sz_leaf] at hl ⊢
  rw [enc_leaf]
  have HX := Lib.hid (heap_alloc_new w (.cells #[.int .i64 k, .int .i64 n, .string s] 60))
  have HBX := Lib.hid (bel_box w (.cells #[.int .i64 k, .int .i64 n, .string s] 60))
  have H := Lib.hid (hbs.alloc (.cells #[.int .i64 k, .int .i64 n, .string s] 60))
  have hz : (w.alloc (.cells #[.int .i64 k, .int .i64 n, .string s] 60)).heap.size = w.heap.size + 1 := by simp
  have HZ := Lib.hid hz
  have HB1 : Hid (B ≤ (w.alloc (.cells #[.int .i64 k, .int .i64 n, .string s] 60)).heap.size) := Lib.hid (by rw [hz]; omega)
  clear hd hR hrd hmem hbs hN hE hz
  rcases (show k = 1 ∨ k = 2 ∨ k = 3 ∨ k = 4 ∨ k = 6 ∨ k = 8 by omega) with rfl | rfl | rfl | rfl | rfl | rfl
  · have HL : Hid (leafB ⟨1, n, s⟩ = intB n) := Lib.hid (by unfold leafB; rfl)
    have HN := Lib.hid hn
    clear hk hr h5 h7 hn
    go_enter Tryd.func35, Tryd.ntmps35
    go_wp2_with fail
    refine (putInt_any B bv xs n HN.out _ HB1.out H.out (by omega)).mono ?_
    rintro e w2 ⟨v2, rfl, h2⟩
    have H2 := Lib.hid (Wr.behind HBX.out hB h2)
    clear h2
    go_wp2_with fail
    go_ret2
    exact ⟨_, rfl, by rw [HL.out]; exact H2.out⟩
  · have HL : Hid (leafB ⟨2, n, s⟩ = atomB s) := Lib.hid (by unfold leafB; rfl)
    have hs := (hr.2.2.2.1 rfl).1
    clear hk hr h5 h7 hn
    go_enter Tryd.func35, Tryd.ntmps35
    go_wp2_with fail
    refine (putAtom_any B bv xs s (by omega) _ HB1.out H.out (by omega)).mono ?_
    rintro e w2 ⟨v2, rfl, h2⟩
    have H2 := Lib.hid (Wr.behind HBX.out hB h2)
    clear h2
    go_wp2_with fail
    go_ret2
    exact ⟨_, rfl, by rw [HL.out]; exact H2.out⟩
  · have HL : Hid (leafB ⟨3, n, s⟩ = [90] ++ be2 2 ++ atomB nodeS ++ be4 0 ++ be4 (n % 4294967296) ++ be4 (n / 4294967296)) := Lib.hid (by unfold leafB; rfl)
    have hb := hr.1 rfl
    have hand : bits .and .i64 n 4294967295 = n % 4294967296 := i64_mask32 n (by omega) (by omega)
    obtain ⟨hb1, hb2⟩ := hb
    clear hk hr h5 h7 hn
    go_enter Tryd.func35, Tryd.ntmps35
    go_wp2_with (at_builtin; refine wpList_bytesAt (.tmp 29) (.tmp 30) [90] _ 1 _ HZ.out.symm rfl rfl rfl rfl H.out rfl rfl HB1.out (by omega) ?next)
    case next =>
      intro v1 w1 h1
      have hx1 := h1.box H.out HX.out
      have hz1 := h1.fr.size
      rw [HZ.out] at hz1
      have H1 := Lib.hid (Wr.behind HBX.out hB h1)
      clear h1 c0 c1 c2
      have hy1 := blk_cell hx1 0
      have hy2 := blk_cell hx1 1
      simp at hy1 hy2
      go_wp2_with fail
      refine (put16_any B v1 _ 2 w1 (by omega) H1.out.bs (by simp; omega)).mono ?_
      rintro e w2 ⟨v2, rfl, h2⟩
      have hx2 := h2.box H1.out.bs hx1
      have hz2 := h2.fr.size
      have H2 := Lib.hid (H1.out.trans h2)
      clear h2 hy1 hy2 hx1
      go_wp2_with fail
      refine (putAtom_any B v2 _ nodeS (by decide) w2 (by omega) H2.out.bs (by simp [be2]; omega)).mono ?_
      rintro e w3 ⟨v3, rfl, h3⟩
      have hx3 := h3.box H2.out.bs hx2
      have hz3 := h3.fr.size
      have H3 := Lib.hid (H2.out.trans h3)
      clear h3 hx2
      go_wp2_with fail
      have d1 : w3.drew.cell? ⟨w.heap.size, 1, none⟩ = some (.int .i64 n) := by have := blk_cell hx3 1; simpa using this
      have H3D : Hid (Wr B w bv w3.drew v3 (xs ++ [90] ++ be2 2 ++ atomB nodeS)) := Lib.hid (H3.out.below hB ((Below.refl _ w3).drew))
      have hx4 : w3.drew.heap[w.heap.size]? = some (.cells #[.int .i64 3, .int .i64 n, .string s] 60 (0, 0)) := hx3
      have hz4 : w2.heap.size ≤ w3.drew.heap.size := hz3
      refine wp_region_seq [] [(0, true), (2, true), (3, true), (4, true), (6, true), (7, true), (8, true), (1, false), (5, false), (9, false), (10, true)]
        Tryd.lays196.mixed (by kernel_rfl) (by kernel_rfl) (fun c a d v w h => by cases d <;> exact h) ?_
      generalize w3.drew = w4 at d1 H3D hx4 hz4 ⊢
      clear hx3 hz3 H3
      refine seqP_held (fun W => W.cell? ⟨w.heap.size, 1, none⟩ = some (.int .i64 n)) d1 ?_
      refine seqH_take (o := ⟨some 34, _, _, _, _, none⟩) _ rfl (by rfl) (fun W hW => by (have e1 := hW; go_simp; with_reducible rfl)) ?_
      simp only [Act.put, List.setIfInBounds_toArray, List.set_cons_zero, List.set_cons_succ]
      refine seqH_take (o := ⟨some 36, _, _, _, _, none⟩) _ rfl (by rfl) (fun W hW => by (have e1 := hW; go_simp; with_reducible rfl)) ?_
      simp only [Act.put, List.setIfInBounds_toArray, List.set_cons_zero, List.set_cons_succ]
      refine seqH_take (o := ⟨some 37, _, _, _, _, none⟩) _ rfl (by rfl) (fun W hW => by (have e1 := hW; go_simp; with_reducible rfl)) ?_
      simp only [Act.put, List.setIfInBounds_toArray, List.set_cons_zero, List.set_cons_succ]
      refine seqH_take (o := ⟨some 38, _, _, _, _, none⟩) _ rfl (by rfl) (fun W hW => by (have e1 := hW; go_simp; with_reducible rfl)) ?_
      simp only [Act.put, List.setIfInBounds_toArray, List.set_cons_zero, List.set_cons_succ]
      refine seqH_take (o := ⟨some 40, _, _, _, _, none⟩) _ rfl (by rfl) (fun W hW => by (have e1 := hW; go_simp; with_reducible rfl)) ?_
      simp only [Act.put, List.setIfInBounds_toArray, List.set_cons_zero, List.set_cons_succ]
      refine seqH_take (o := ⟨some 41, _, _, _, _, none⟩) _ rfl (by rfl) (fun W hW => by (have e1 := hW; go_simp; with_reducible rfl)) ?_
      simp only [Act.put, List.setIfInBounds_toArray, List.set_cons_zero, List.set_cons_succ]
      refine seqH_take (o := ⟨some 42, _, _, _, _, none⟩) _ rfl (by rfl) (fun W hW => by (have e1 := hW; go_simp; with_reducible rfl)) ?_
      simp only [Act.put, List.setIfInBounds_toArray, List.set_cons_zero, List.set_cons_succ]
      refine seqH_call (o := ⟨some 35, _, _, _, _, none⟩) rfl (by rfl) (fun K hK => ?_)
      go_simp
      refine (put32_any B v3 _ 0 w4 (by omega) H3D.out.bs (by simp [be2, atomB_len, node_size]; omega)).mono ?_
      rintro e w5 ⟨v5, rfl, h5⟩
      have hx5 := h5.box H3D.out.bs hx4
      have hz5 := h5.fr.size
      have H5 := Lib.hid (H3D.out.trans h5)
      refine hK _ _ (by have := blk_cell hx5 1; simpa using this) ?_
      clear h5 hx4 d1 hK K
      refine seqH_call (o := ⟨some 39, _, _, _, _, none⟩) rfl (by rfl) (fun K hK => ?_)
      go_simp
      refine (put32_any B v5 _ (n % 4294967296) w5 (by omega) H5.out.bs (by simp [be2, be4, atomB_len, node_size]; omega)).mono ?_
      rintro e w6 ⟨v6, rfl, h6⟩
      have hx6 := h6.box H5.out.bs hx5
      have hz6 := h6.fr.size
      have H6 := Lib.hid (H5.out.trans h6)
      refine hK _ _ (by have := blk_cell hx6 1; simpa using this) ?_
      clear h6 hx5 hK K
      refine seqH_call (o := ⟨some 43, _, _, _, _, none⟩) rfl (by rfl) (fun K hK => ?_)
      go_simp
      refine (put32_any B v6 _ (n / 4294967296) w6 (by omega) H6.out.bs (by simp [be2, be4, atomB_len, node_size]; omega)).mono ?_
      rintro e w7 ⟨v7, rfl, h7⟩
      have hx7 := h7.box H6.out.bs hx6
      have H7 := Lib.hid (H6.out.trans h7)
      refine hK _ _ (by have := blk_cell hx7 1; simpa using this) ?_
      clear h7 hx6 hx7 hK K
      refine seqH_take (o := ⟨some 0, _, _, _, _, none⟩) _ rfl (by rfl) (fun W hW => by (have e1 := hW; go_simp; with_reducible rfl)) ?_
      simp only [Act.put, List.setIfInBounds_toArray, List.set_cons_zero]
      refine seqH_nil ?_
      go_wp2_with fail
      go_ret2
      exact ⟨_, rfl, by rw [HL.out]; have := H7.out; simpa using this⟩
  · have HL : Hid (leafB ⟨4, n, s⟩ = [88] ++ atomB nodeS ++ be4 (n % 4294967296) ++ be4 (n / 4294967296) ++ be4 0) := Lib.hid (by unfold leafB; rfl)
    have hb := hr.2.1 rfl
    have hand : bits .and .i64 n 4294967295 = n % 4294967296 := i64_mask32 n (by omega) (by omega)
    obtain ⟨hb1, hb2⟩ := hb
    clear hk hr h5 h7 hn
    go_enter Tryd.func35, Tryd.ntmps35
    go_wp2_with (at_builtin; refine wpList_bytesAt (.tmp 46) (.tmp 47) [88] _ 1 _ HZ.out.symm rfl rfl rfl rfl H.out rfl rfl HB1.out (by omega) ?next)
    case next =>
      intro v1 w1 h1
      have hx1 := h1.box H.out HX.out
      have hz1 := h1.fr.size
      rw [HZ.out] at hz1
      have H2 := Lib.hid (Wr.behind HBX.out hB h1)
      clear h1 c0 c1 c2
      have hy1 := blk_cell hx1 0
      have hy2 := blk_cell hx1 1
      simp at hy1 hy2
      go_wp2_with fail
      refine (putAtom_any B v1 _ nodeS (by decide) w1 (by omega) H2.out.bs (by simp; omega)).mono ?_
      rintro e w3 ⟨v3, rfl, h3⟩
      have hx3 := h3.box H2.out.bs hx1
      have hz3 := h3.fr.size
      have H3 := Lib.hid (H2.out.trans h3)
      clear h3 hy1 hy2 hx1
      go_wp2_with fail
      have d1 : w3.drew.cell? ⟨w.heap.size, 1, none⟩ = some (.int .i64 n) := by have := blk_cell hx3 1; simpa using this
      have H3D : Hid (Wr B w bv w3.drew v3 (xs ++ [88] ++ atomB nodeS)) := Lib.hid (H3.out.below hB ((Below.refl _ w3).drew))
      have hx4 : w3.drew.heap[w.heap.size]? = some (.cells #[.int .i64 4, .int .i64 n, .string s] 60 (0, 0)) := hx3
      have hz4 : w1.heap.size ≤ w3.drew.heap.size := hz3
      refine wp_region_seq [] [(0, true), (1, true), (2, true), (3, true), (5, true), (6, true), (7, true), (4, false), (8, false), (9, false), (10, true)]
        Tryd.lays196.mixed (by kernel_rfl) (by kernel_rfl) (fun c a d v w h => by cases d <;> exact h) ?_
      generalize w3.drew = w4 at d1 H3D hx4 hz4 ⊢
      clear hx3 hz3 H3
      refine seqP_held (fun W => W.cell? ⟨w.heap.size, 1, none⟩ = some (.int .i64 n)) d1 ?_
      refine seqH_take (o := ⟨some 50, _, _, _, _, none⟩) _ rfl (by rfl) (fun W hW => by (have e1 := hW; go_simp; with_reducible rfl)) ?_
      simp only [Act.put, List.setIfInBounds_toArray, List.set_cons_zero, List.set_cons_succ]
      refine seqH_take (o := ⟨some 51, _, _, _, _, none⟩) _ rfl (by rfl) (fun W hW => by (have e1 := hW; go_simp; with_reducible rfl)) ?_
      simp only [Act.put, List.setIfInBounds_toArray, List.set_cons_zero, List.set_cons_succ]
      refine seqH_take (o := ⟨some 52, _, _, _, _, none⟩) _ rfl (by rfl) (fun W hW => by (have e1 := hW; go_simp; with_reducible rfl)) ?_
      simp only [Act.put, List.setIfInBounds_toArray, List.set_cons_zero, List.set_cons_succ]
      refine seqH_take (o := ⟨some 53, _, _, _, _, none⟩) _ rfl (by rfl) (fun W hW => by (have e1 := hW; go_simp; with_reducible rfl)) ?_
      simp only [Act.put, List.setIfInBounds_toArray, List.set_cons_zero, List.set_cons_succ]
      refine seqH_take (o := ⟨some 55, _, _, _, _, none⟩) _ rfl (by rfl) (fun W hW => by (have e1 := hW; go_simp; with_reducible rfl)) ?_
      simp only [Act.put, List.setIfInBounds_toArray, List.set_cons_zero, List.set_cons_succ]
      refine seqH_take (o := ⟨some 56, _, _, _, _, none⟩) _ rfl (by rfl) (fun W hW => by (have e1 := hW; go_simp; with_reducible rfl)) ?_
      simp only [Act.put, List.setIfInBounds_toArray, List.set_cons_zero, List.set_cons_succ]
      refine seqH_take (o := ⟨some 57, _, _, _, _, none⟩) _ rfl (by rfl) (fun W hW => by (have e1 := hW; go_simp; with_reducible rfl)) ?_
      simp only [Act.put, List.setIfInBounds_toArray, List.set_cons_zero, List.set_cons_succ]
      refine seqH_call (o := ⟨some 54, _, _, _, _, none⟩) rfl (by rfl) (fun K hK => ?_)
      go_simp
      refine (put32_any B v3 _ (n % 4294967296) w4 (by omega) H3D.out.bs (by simp [atomB_len, node_size]; omega)).mono ?_
      rintro e w5 ⟨v5, rfl, h5⟩
      have hx5 := h5.box H3D.out.bs hx4
      have hz5 := h5.fr.size
      have H5 := Lib.hid (H3D.out.trans h5)
      refine hK _ _ (by have := blk_cell hx5 1; simpa using this) ?_
      clear h5 hx4 d1 hK K
      refine seqH_call (o := ⟨some 58, _, _, _, _, none⟩) rfl (by rfl) (fun K hK => ?_)
      go_simp
      refine (put32_any B v5 _ (n / 4294967296) w5 (by omega) H5.out.bs (by simp [be4, atomB_len, node_size]; omega)).mono ?_
      rintro e w6 ⟨v6, rfl, h6⟩
      have hx6 := h6.box H5.out.bs hx5
      have hz6 := h6.fr.size
      have H6 := Lib.hid (H5.out.trans h6)
      refine hK _ _ (by have := blk_cell hx6 1; simpa using this) ?_
      clear h6 hx5 hK K
      refine seqH_call (o := ⟨some 59, _, _, _, _, none⟩) rfl (by rfl) (fun K hK => ?_)
      go_simp
      refine (put32_any B v6 _ 0 w6 (by omega) H6.out.bs (by simp [be4, atomB_len, node_size]; omega)).mono ?_
      rintro e w7 ⟨v7, rfl, h7⟩
      have hx7 := h7.box H6.out.bs hx6
      have H7 := Lib.hid (H6.out.trans h7)
      refine hK _ _ (by have := blk_cell hx7 1; simpa using this) ?_
      clear h7 hx6 hx7 hK K
      refine seqH_take (o := ⟨some 0, _, _, _, _, none⟩) _ rfl (by rfl) (fun W hW => by (have e1 := hW; go_simp; with_reducible rfl)) ?_
      simp only [Act.put, List.setIfInBounds_toArray, List.set_cons_zero]
      refine seqH_nil ?_
      go_wp2_with fail
      go_ret2
      exact ⟨_, rfl, by rw [HL.out]; have := H7.out; simpa using this⟩
  · have HL : Hid (leafB ⟨6, n, s⟩ = [106]) := Lib.hid (by unfold leafB; rfl)
    clear hk hr h5 h7 hn
    go_enter Tryd.func35, Tryd.ntmps35
    go_wp2_with (at_builtin; refine wpList_bytesAt (.tmp 62) (.tmp 63) [106] _ 1 _ HZ.out.symm rfl rfl rfl rfl H.out rfl rfl HB1.out (by omega) ?next)
    case next =>
      intro v1 w1 h1
      have H2 := Lib.hid (Wr.behind HBX.out hB h1)
      clear h1 c0 c1 c2
      go_wp2_with fail
      go_ret2
      exact ⟨_, rfl, by rw [HL.out]; exact H2.out⟩
  · have HL : Hid (leafB ⟨8, n, s⟩ = [109] ++ be4 s.size ++ s.data.toList) := Lib.hid (by unfold leafB; rfl)
    have hs := hr.2.2.2.2 rfl
    clear hk hr h5 h7 hn
    go_enter Tryd.func35, Tryd.ntmps35
    go_wp2_with fail
    obtain ⟨w3, hw3⟩ : ∃ w3, w.alloc (.cells #[.int .i64 8, .int .i64 n, .string s] 60) = w3 := ⟨_, rfl⟩
    rw [hw3] at H HX HBX HZ
    rw [hw3]
    have d1 : w3.drew.cell? ⟨w.heap.size, 2, none⟩ = some (.string s) := by have := blk_cell HX.out 2; simpa using this
    have H3D : Hid (Bs B w3.drew bv xs) := Lib.hid (H.out.drewN 1)
    have HB3 : Hid (Below w.heap.size w w3.drew) := Lib.hid HBX.out.drew
    have hx4 : w3.drew.heap[w.heap.size]? = some (.cells #[.int .i64 8, .int .i64 n, .string s] 60 (0, 0)) := HX.out
    have hz4 : w.heap.size + 1 ≤ w3.drew.heap.size := by show _ ≤ w3.heap.size; rw [HZ.out]; omega
    clear c0 c1 c2
    refine wp_region_seq [] [(0, true), (3, true), (4, true), (5, true), (7, true), (8, true), (1, false), (2, false), (6, false), (9, false), (10, true)]
      Tryd.lays196.mixed (by kernel_rfl) (by kernel_rfl) (fun c a d v w h => by cases d <;> exact h) ?_
    generalize w3.drew = w4 at d1 H3D HB3 hx4 hz4 ⊢
    clear H HX HBX HZ hw3
    refine seqP_held (fun W => W.cell? ⟨w.heap.size, 2, none⟩ = some (.string s)) d1 ?_
    refine seqH_take (o := ⟨some 67, _, _, _, _, none⟩) _ rfl (by rfl) (fun W hW => by (have e1 := hW; go_simp; with_reducible rfl)) ?_
    simp only [Act.put, List.setIfInBounds_toArray, List.set_cons_zero, List.set_cons_succ]
    refine seqH_take (o := ⟨some 70, _, _, _, _, none⟩) _ rfl (by rfl) (fun W hW => by (have e1 := hW; go_simp; with_reducible rfl)) ?_
    simp only [Act.put, List.setIfInBounds_toArray, List.set_cons_zero, List.set_cons_succ]
    refine seqH_take (o := ⟨some 71, _, _, _, _, none⟩) _ rfl (by rfl) (fun W hW => by (have e1 := hW; go_simp; with_reducible rfl)) ?_
    simp only [Act.put, List.setIfInBounds_toArray, List.set_cons_zero, List.set_cons_succ]
    refine seqH_take (o := ⟨some 72, _, _, _, _, none⟩) _ rfl (by rfl) (fun W hW => by (have e1 := hW; go_simp; with_reducible rfl)) ?_
    simp only [Act.put, List.setIfInBounds_toArray, List.set_cons_zero, List.set_cons_succ]
    refine seqH_take (o := ⟨some 74, _, _, _, _, none⟩) _ rfl (by rfl) (fun W hW => by (have e1 := hW; go_simp; with_reducible rfl)) ?_
    simp only [Act.put, List.setIfInBounds_toArray, List.set_cons_zero, List.set_cons_succ]
    refine seqH_take (o := ⟨some 75, _, _, _, _, none⟩) _ rfl (by rfl) (fun W hW => by (have e1 := hW; go_simp; with_reducible rfl)) ?_
    simp only [Act.put, List.setIfInBounds_toArray, List.set_cons_zero, List.set_cons_succ]
    refine seqH_call (o := ⟨some 68, _, _, _, _, none⟩) rfl (by rfl) (fun K hK => ?_)
    go_simp
    refine hK _ _ (by have := blk_cell (blk_alloc (o' := .cells #[.int .u8 109] 5) hx4) 2; simpa using this) ?_
    clear hK K
    refine seqH_call (o := ⟨some 69, _, _, _, _, none⟩) rfl (by rfl) (fun K hK => ?_)
    refine wp_bytes (B := B) (v := bv) (xs := xs) (.tmp 67) (.tmp 68) [109] _ 1 rfl rfl rfl H3D.out rfl rfl (by omega) (by omega) ?_
    intro v5 w5 h5
    have hx5 := h5.box H3D.out hx4
    have hz5 := h5.fr.size
    have H5 := Lib.hid (Wr.behind HB3.out hB h5)
    refine hK _ _ (by have := blk_cell hx5 2; simpa using this) ?_
    clear h5 hx4 d1 hK K
    refine seqH_call (o := ⟨some 73, _, _, _, _, none⟩) rfl (by rfl) (fun K hK => ?_)
    go_simp
    refine (put32_any B v5 _ (s.size : Int) w5 (by omega) H5.out.bs (by simp; omega)).mono ?_
    rintro e w6 ⟨v6, rfl, h6⟩
    have hx6 := h6.box H5.out.bs hx5
    have hz6 := h6.fr.size
    have H6 := Lib.hid (H5.out.trans h6)
    refine hK _ _ (by have := blk_cell hx6 2; simpa using this) ?_
    clear h6 hx5 hK K
    refine seqH_call (o := ⟨some 76, _, _, _, _, none⟩) rfl (by rfl) (fun K hK => ?_)
    refine wp_bytes_str (B := B) (v := v6) (xs := xs ++ [109] ++ be4 s.size) (.tmp 73) (.tmp 75) s rfl rfl rfl H6.out.bs (by omega) (by simp [be4]; omega) ?_
    intro v7 w7 h7
    have hx7 := h7.box H6.out.bs hx6
    have H7 := Lib.hid (H6.out.trans h7)
    refine hK _ _ (by have := blk_cell hx7 2; simpa using this) ?_
    clear h7 hx6 hx7 hK K
    refine seqH_take (o := ⟨some 0, _, _, _, _, none⟩) _ rfl (by rfl) (fun W hW => by (have e1 := hW; go_simp; with_reducible rfl)) ?_
    simp only [Act.put, List.setIfInBounds_toArray]
    refine seqH_nil ?_
    go_wp2_with fail
    go_ret2
    exact ⟨_, rfl, by rw [HL.out]; have := H7.out; simpa using this⟩
end Go.Proofs.YtkhjdcnlpablkaaDoor
