/- The document's marked mailbox: Put, find, out, Mark, Use, Next. -/
import Derived.Test.YtgijaehmffojhaaOldLaw
import Derived.Test.YtgijaehmffojhaaIter
namespace Go.Proofs.Ytgijaehmffojhaa
open Go.RowKit

theorem Try.info75 : (Try.prog.info? 75).map (fun i => (i.zero, i.size, i.bytes)) = some (some (.agg #[.int .u64 0, .int .i64 0]), 2, 16) := by kernel_rfl
theorem Try.info80 : (Try.prog.info? 80).map (fun i => (i.zero, i.size, i.bytes)) = some (some (.agg #[.int .i64 0, .int .i64 0]), 2, 16) := by kernel_rfl

/-- Pairs of numbers, in memory. -/
def prs (k : IntKind) : List (Int × Int) → List Value
  | [] => []
  | e :: E => .int k e.1 :: .int .i64 e.2 :: prs k E

section
variable {k : IntKind}
theorem prs_len : ∀ E, (prs k E).length = E.length * 2
  | [] => rfl
  | e :: E => by simp only [prs, List.length_cons, prs_len E]; omega

theorem prs_at : ∀ (E : List (Int × Int)) (i : Nat) (a b : Int), E[i]? = some (a, b) → (prs k E)[i * 2]? = some (.int k a) ∧ (prs k E)[i * 2 + 1]? = some (.int .i64 b)
  | [], i, a, b, h => by simp at h
  | e :: E, 0, a, b, h => by simp at h; subst h; exact ⟨rfl, rfl⟩
  | e :: E, i + 1, a, b, h => by
    simp only [List.getElem?_cons_succ] at h
    have := prs_at E i a b h
    rw [show (i + 1) * 2 = i * 2 + 1 + 1 by omega]
    exact this

theorem prs_app : ∀ (E F : List (Int × Int)), prs k (E ++ F) = prs k E ++ prs k F
  | [], F => rfl
  | e :: E, F => by simp only [List.cons_append, prs, prs_app E F]

theorem prs_take : ∀ (E : List (Int × Int)) (i : Nat), (prs k E).take (i * 2) = prs k (E.take i)
  | [], i => by simp [prs]
  | e :: E, 0 => by simp [prs]
  | e :: E, i + 1 => by
    rw [show (i + 1) * 2 = i * 2 + 1 + 1 by omega]
    simp only [prs, List.take_succ_cons, prs_take E i]

theorem prs_drop : ∀ (E : List (Int × Int)) (i : Nat), (prs k E).drop (i * 2) = prs k (E.drop i)
  | [], i => by simp [prs]
  | e :: E, 0 => by simp [prs]
  | e :: E, i + 1 => by
    rw [show (i + 1) * 2 = i * 2 + 1 + 1 by omega]
    simp only [prs, List.drop_succ_cons, prs_drop E i]

theorem prs_one : ∀ (E : List (Int × Int)), ∀ u ∈ prs k E, u.oneCell' = true
  | [], u, h => by simp [prs] at h
  | e :: E, u, h => by
    simp only [prs, List.mem_cons] at h
    rcases h with rfl | rfl | h
    · rfl
    · rfl
    · exact prs_one E u h
end

/-- The document's mailbox: its room; messages and their numbers; how many have come; the last that the scan has examined or passed over; which it examined last; is a scan going on; the marks; how many were examined. -/
structure Rx where
  room : Int
  L : List (Int × Int)
  came : Int
  atn : Int
  last : Int
  going : Bool
  ms : List (Int × Int)
  ex : Int

structure Rb (w : World) (q : Nat) (lv mv : Value) (R : Rx) : Prop where
  blk : w.heap[q]? = some (.cells #[.int .i64 R.room, lv, .int .i64 R.came, .int .i64 R.atn, .int .i64 R.last, .bool R.going, mv, .int .i64 R.ex] 42 (0, 0))
  ol : Sl w 75 2 lv R.L.length (prs .u64 R.L)
  om : Sl w 80 2 mv R.ms.length (prs .i64 R.ms)

def rf (q : Nat) (lv mv : Value) (k : Nat) : Prop := k = q ∨ lv.ownBlock = some k ∨ mv.ownBlock = some k

def RPost (q : Nat) (lv mv : Value) (R : Rx) (w w' : World) : Prop :=
  ∃ lv' mv', Rb w' q lv' mv' R ∧ Fr (rf q lv mv) w w' ∧ ∀ k, rf q lv' mv' k → rf q lv mv k ∨ w.heap.size ≤ k

theorem Rb.lt {w : World} {q : Nat} {lv mv : Value} {R : Rx} (h : Rb w q lv mv R) : ∀ k, rf q lv mv k → k < w.heap.size := by
  rintro k (rfl | hk | hk)
  · exact blk_lt h.blk
  · exact h.ol.lt k hk
  · exact h.om.lt k hk
theorem Rb.keep {w w' : World} {q : Nat} {lv mv : Value} {R : Rx} (h : Rb w q lv mv R) {F : Nat → Prop} (hf : Fr F w w') (hF : ∀ k, rf q lv mv k → ¬ F k) : Rb w' q lv mv R :=
  ⟨hf.at h.blk (hF q (.inl rfl)), hf.sl h.ol (fun k hk => hF k (.inr (.inl hk))), hf.sl h.om (fun k hk => hF k (.inr (.inr hk)))⟩
theorem Rb.same {w w' : World} {q : Nat} {lv mv : Value} {R : Rx} (h : Rb w q lv mv R) (hb : Below w.heap.size w w') : RPost q lv mv R w w' :=
  ⟨lv, mv, h.keep (bel_fr0 hb) (fun _ _ h => h), (bel_fr0 hb).mono (fun _ h => h.elim), fun _ h => .inl h⟩
theorem Rb.dis {w : World} {q : Nat} {lv mv : Value} {R : Rx} (h : Rb w q lv mv R) : ∀ k, lv.ownBlock = some k → mv.ownBlock ≠ some k := by
  intro k hk hk'
  obtain ⟨c, hc⟩ := h.ol.cells k hk
  obtain ⟨c', hc'⟩ := h.om.cells k hk'
  rw [hc] at hc'
  simp at hc'
theorem Rb.nel {w : World} {q : Nat} {lv mv : Value} {R : Rx} (h : Rb w q lv mv R) : ∀ k, lv.ownBlock = some k → k ≠ q := h.ol.ne h.blk (by decide)
theorem Rb.nem {w : World} {q : Nat} {lv mv : Value} {R : Rx} (h : Rb w q lv mv R) : ∀ k, mv.ownBlock = some k → k ≠ q := h.om.ne h.blk (by decide)
theorem RPost.from {w w1 w' : World} {q : Nat} {lv mv : Value} {R : Rx} {F : Nat → Prop} (hf : Fr F w w1) (hF : ∀ k, F k → rf q lv mv k) (h : RPost q lv mv R w1 w') : RPost q lv mv R w w' := by
  obtain ⟨lv', mv', hb, hf', hg⟩ := h
  exact ⟨lv', mv', hb, (hf.mono hF).trans hf', fun k hk => (hg k hk).imp id (fun h => Nat.le_trans hf.size h)⟩
theorem RPost.trans {w w1 w' : World} {q : Nat} {lv mv : Value} {R R1 : Rx} (h1 : RPost q lv mv R1 w w1) (h : ∀ lv1 mv1, Rb w1 q lv1 mv1 R1 → RPost q lv1 mv1 R w1 w') : RPost q lv mv R w w' := by
  obtain ⟨l1, m1, hb1, hf1, hg1⟩ := h1
  obtain ⟨l2, m2, hb2, hf2, hg2⟩ := h l1 m1 hb1
  refine ⟨l2, m2, hb2, hf1.trans' hf2 hg1, fun k hk => ?_⟩
  rcases hg2 k hk with x | x
  · exact hg1 k x
  · exact .inr (Nat.le_trans hf1.size x)

theorem setCell_q {q : Nat} {lv mv : Value} {a w : World} (h : Fr (rf q lv mv) a w) (i : Nat) (u : Value) : Fr (rf q lv mv) a (w.setCell ⟨q, i, none⟩ u) := h.setCell (p := ⟨q, i, none⟩) (.inl (.inl rfl)) u

theorem Rb.set_came {w : World} {q : Nat} {lv mv : Value} {R : Rx} (h : Rb w q lv mv R) (n : Int) : Rb (w.setCell ⟨q, 2, none⟩ (.int .i64 n)) q lv mv { R with came := n } :=
  ⟨by rw [blk_set h.blk]; rfl, h.ol.set_other (a := ⟨q, 2, none⟩) _ h.nel, h.om.set_other (a := ⟨q, 2, none⟩) _ h.nem⟩
theorem Rb.set_at {w : World} {q : Nat} {lv mv : Value} {R : Rx} (h : Rb w q lv mv R) (n : Int) : Rb (w.setCell ⟨q, 3, none⟩ (.int .i64 n)) q lv mv { R with atn := n } :=
  ⟨by rw [blk_set h.blk]; rfl, h.ol.set_other (a := ⟨q, 3, none⟩) _ h.nel, h.om.set_other (a := ⟨q, 3, none⟩) _ h.nem⟩
theorem Rb.set_last {w : World} {q : Nat} {lv mv : Value} {R : Rx} (h : Rb w q lv mv R) (n : Int) : Rb (w.setCell ⟨q, 4, none⟩ (.int .i64 n)) q lv mv { R with last := n } :=
  ⟨by rw [blk_set h.blk]; rfl, h.ol.set_other (a := ⟨q, 4, none⟩) _ h.nel, h.om.set_other (a := ⟨q, 4, none⟩) _ h.nem⟩
theorem Rb.set_going {w : World} {q : Nat} {lv mv : Value} {R : Rx} (h : Rb w q lv mv R) (b : Bool) : Rb (w.setCell ⟨q, 5, none⟩ (.bool b)) q lv mv { R with going := b } :=
  ⟨by rw [blk_set h.blk]; rfl, h.ol.set_other (a := ⟨q, 5, none⟩) _ h.nel, h.om.set_other (a := ⟨q, 5, none⟩) _ h.nem⟩
theorem Rb.set_ex {w : World} {q : Nat} {lv mv : Value} {R : Rx} (h : Rb w q lv mv R) (n : Int) : Rb (w.setCell ⟨q, 7, none⟩ (.int .i64 n)) q lv mv { R with ex := n } :=
  ⟨by rw [blk_set h.blk]; rfl, h.ol.set_other (a := ⟨q, 7, none⟩) _ h.nel, h.om.set_other (a := ⟨q, 7, none⟩) _ h.nem⟩

/-- The list put in anew. -/
theorem Rb.put_L {w w1 : World} {q : Nat} {lv mv lv' : Value} {R : Rx} (h : Rb w q lv mv R) (hf : Fr (fun k => lv.ownBlock = some k) w w1) {L : List (Int × Int)} (hs : Sl w1 75 2 lv' L.length (prs .u64 L))
    (hv : lv'.ownBlock = lv.ownBlock ∨ ∀ b, lv'.ownBlock = some b → w.heap.size ≤ b) : RPost q lv mv { R with L := L } w (w1.setCell ⟨q, 1, none⟩ lv') := by
  have hb1 := hf.at h.blk (fun e => h.nel q e rfl)
  have hm1 := hf.sl h.om (fun k hk hk' => h.dis k hk' hk)
  refine ⟨lv', mv, ⟨by rw [blk_set hb1]; rfl, hs.set_other (a := ⟨q, 1, none⟩) _ (hs.ne hb1 (by decide)), hm1.set_other (a := ⟨q, 1, none⟩) _ h.nem⟩, setCell_q (hf.mono fun k hk => Or.inr (Or.inl hk)) 1 _, fun k hk => ?_⟩
  rcases hk with e | hk | hk
  · exact .inl (.inl e)
  · rcases hv with hv | hv
    · exact .inl (.inr (.inl (hv ▸ hk)))
    · exact .inr (hv k hk)
  · exact .inl (.inr (.inr hk))

theorem Rb.put_ms {w w1 : World} {q : Nat} {lv mv mv' : Value} {R : Rx} (h : Rb w q lv mv R) (hf : Fr (fun k => mv.ownBlock = some k) w w1) {ms : List (Int × Int)} (hs : Sl w1 80 2 mv' ms.length (prs .i64 ms))
    (hv : mv'.ownBlock = mv.ownBlock ∨ ∀ b, mv'.ownBlock = some b → w.heap.size ≤ b) : RPost q lv mv { R with ms := ms } w (w1.setCell ⟨q, 6, none⟩ mv') := by
  have hb1 := hf.at h.blk (fun e => h.nem q e rfl)
  have hm1 := hf.sl h.ol (fun k hk hk' => h.dis k hk hk')
  refine ⟨lv, mv', ⟨by rw [blk_set hb1]; rfl, hm1.set_other (a := ⟨q, 6, none⟩) _ h.nel, hs.set_other (a := ⟨q, 6, none⟩) _ (hs.ne hb1 (by decide))⟩, setCell_q (hf.mono fun k hk => Or.inr (Or.inr hk)) 6 _, fun k hk => ?_⟩
  rcases hk with e | hk | hk
  · exact .inl (.inl e)
  · exact .inl (.inr (.inl hk))
  · rcases hv with hv | hv
    · exact .inl (.inr (.inr (hv ▸ hk)))
    · exact .inr (hv k hk)

def Rx.put (R : Rx) (v : Int) : Rx := { R with came := R.came + 1, L := R.L ++ [(v, R.came + 1)] }
def Rx.mark (R : Rx) (ref : Int) : Rx := { R with ms := R.ms ++ [(ref, R.came)] }

set_option maxHeartbeats 3200000 in
set_option maxRecDepth 100000 in
theorem RPut_room (q : Nat) (lv mv : Value) (R0 : Rx) (v : Int) (w : World) (h : Rb w q lv mv R0) (hl : R0.L.length ≤ 1000) (hr : (R0.L.length : Int) < R0.room) (c0 : 0 ≤ R0.came) (c1 : R0.came ≤ 1152921504606846976) :
    Calls Try.prog 17 #[.pointer (some ⟨q, 0, none⟩), .int .u64 v] w fun e w' => e = .returned (.int .i64 0) ∧ RPost q lv mv (R0.put v) w w' := by
  obtain ⟨i0, hinf, hz0, hz1, hz2⟩ := info_parts Try.info75
  obtain ⟨ao, cap, rfl, hcap, hmax⟩ := h.ol.shape
  unfold maxLen at hmax
  obtain ⟨mm, hmm⟩ : ∃ mm, R0.L.length = mm := ⟨_, rfl⟩
  rw [hmm] at h hl hr hcap ⊢
  have HM0 := Lib.hid hmm
  clear hmm
  have b0 := blk_cell h.blk 0
  have b1 := blk_cell h.blk 1
  have b2 := blk_cell h.blk 2
  have f2 := blk_free h.blk 2
  simp at b0 b1 b2
  go_enter Try.func17, Try.ntmps17
  go_wp2_with fail
  go_quiet (fail)
  go_upto_region 4 with fail
  have hs := (h.keep ((Fr.refl (fun _ => False) w).drewN nq) (fun _ _ h => h)).set_came (R0.came + 1)
  have hfr := setCell_q ((Fr.refl (rf q (.slice ao mm cap) mv) w).drewN nq) 2 (.int .i64 (R0.came + 1))
  generalize (w.drewN nq).setCell ⟨q, 2, none⟩ (.int .i64 (R0.came + 1)) = w1 at hs hfr ⊢
  obtain ⟨R, hR⟩ : ∃ R : Rx, { R0 with came := R0.came + 1 } = R := ⟨_, rfl⟩
  rw [hR] at hs
  have HM := Lib.hid (show R.L.length = mm by rw [← hR]; exact HM0.out)
  have HR := Lib.hid hR
  have hT : w1.drew.cell? ⟨q, 2, none⟩ = some (.int .i64 R.came) := by
    have := blk_cell hs.blk 2
    simpa using this
  have h2 : Rb w1.drew q (.slice ao mm cap) mv R := hs.keep ((Fr.refl (fun _ => False) w1).drew) (fun _ _ h => h)
  have hf2 : Fr (fun _ => False) w1 w1.drew := (Fr.refl _ w1).drew
  clear hs b0 b1 b2 f2 hR h
  refine wp_region_ord (Ord.take 0 (.take 1 (.take 2 (.take 3 (.take 5 (.take 6 (.take 7 (.take 8 (.take 9 (.take 10 (.fork 4 11 (.alone 11 (.alone 12 (.take 13 (.take 14 (.alone 15 .done))))) (.alone 4 (.alone 12 (.take 13 (.take 14 (.alone 15 .done))))))))))))))))
    (fun W => W.cell? ⟨q, 2, none⟩ = some (.int .i64 R.came)) (by kernel_rfl) (by kernel_rfl) (by kernel_rfl) (fun c a d v w h => by cases d <;> exact h) hT ?_
  generalize w1.drew = w2 at hT h2 hf2 ⊢
  have c7 := blk_cell h2.blk 1
  simp at c7
  have h3 : Rb (w2.alloc (.cells #[.int .u64 v, .int .i64 R.came] 75)) q (.slice ao mm cap) mv R := h2.keep ((Fr.refl (fun _ => False) w2).alloc _) (fun _ _ h => h)
  have c7' := blk_cell h3.blk 1
  have hT' := blk_cell h3.blk 2
  simp at c7' hT'
  refine ord_take (o := ⟨some 22, _, _, _, _, none⟩) _ rfl (by rfl) (fun W hW => by (go_simp; with_reducible rfl)) ?_
  simp only [Act.put, List.setIfInBounds_toArray, List.set_cons_zero, List.set_cons_succ]
  refine ord_take (o := ⟨some 23, _, _, _, _, none⟩) _ rfl (by rfl) (fun W hW => by (go_simp; with_reducible rfl)) ?_
  simp only [Act.put, List.setIfInBounds_toArray, List.set_cons_zero, List.set_cons_succ]
  refine ord_take (o := ⟨some 24, _, _, _, _, none⟩) _ rfl (by rfl) (fun W hW => by (go_simp; with_reducible rfl)) ?_
  simp only [Act.put, List.setIfInBounds_toArray, List.set_cons_zero, List.set_cons_succ]
  refine ord_take (o := ⟨some 25, _, _, _, _, none⟩) _ rfl (by rfl) (fun W hW => by (go_simp; with_reducible rfl)) ?_
  simp only [Act.put, List.setIfInBounds_toArray, List.set_cons_zero, List.set_cons_succ]
  refine ord_take (o := ⟨some 27, _, _, _, _, none⟩) _ rfl (by rfl) (fun W hW => by (go_simp; with_reducible rfl)) ?_
  simp only [Act.put, List.setIfInBounds_toArray, List.set_cons_zero, List.set_cons_succ]
  refine ord_take (o := ⟨some 28, _, _, _, _, none⟩) _ rfl (by rfl) (fun W hW => by (go_simp; with_reducible rfl)) ?_
  simp only [Act.put, List.setIfInBounds_toArray, List.set_cons_zero, List.set_cons_succ]
  refine ord_take (o := ⟨some 29, _, _, _, _, none⟩) _ rfl (by rfl) (fun W hW => by (go_simp; with_reducible rfl)) ?_
  simp only [Act.put, List.setIfInBounds_toArray, List.set_cons_zero, List.set_cons_succ]
  refine ord_take (o := ⟨some 30, _, _, _, _, none⟩) _ rfl (by rfl) (fun W hW => by (go_simp; with_reducible rfl)) ?_
  simp only [Act.put, List.setIfInBounds_toArray, List.set_cons_zero, List.set_cons_succ]
  refine ord_take (o := ⟨some 31, _, _, _, _, none⟩) _ rfl (by rfl) (fun W hW => by (go_simp; with_reducible rfl)) ?_
  simp only [Act.put, List.setIfInBounds_toArray, List.set_cons_zero, List.set_cons_succ]
  refine ord_take (o := ⟨some 32, _, _, _, _, none⟩) _ rfl (by rfl) (fun W hW => by (go_simp; with_reducible rfl)) ?_
  simp only [Act.put, List.setIfInBounds_toArray, List.set_cons_zero, List.set_cons_succ]
  refine ord_fork (oi := ⟨some 26, _, _, _, _, none⟩) (oj := ⟨some 33, _, _, _, _, none⟩) rfl rfl (by rfl) (by rfl) (fun K hK => ?_) (fun K hK => ?_)
  · go_simp
    refine hK _ _ hT ?_
    clear hK K
    refine ord_alone (o := ⟨some 33, _, _, _, _, none⟩) rfl (by rfl) (fun K hK => ?_)
    go_simp
    refine hK _ _ hT' ?_
    clear hK K
    refine ord_alone (o := ⟨some 34, _, _, _, _, none⟩) rfl (by rfl) (fun K hK => ?_)
    refine wp_append_sl (.tmp 26) (.tmp 33) 39 rfl 75 i0 (.agg #[.int .u64 0, .int .i64 0]) 2 16 Try.underlying39 hinf hz0 hz1 hz2 rfl (by decide) (.slice ao mm cap) mm (prs .u64 R.L) rfl (HM.out ▸ h3.ol) ⟨w2.heap.size, 0, none⟩ 1 1 [.int .u64 v, .int .i64 R.came] rfl rfl ?_ ?_ (by unfold maxLen; omega) (by omega) ?_
    · intro j u hj
      have hb := heap_alloc_new w2 (.cells #[.int .u64 v, .int .i64 R.came] 75)
      have hc := blk_cell hb j
      rw [Addr.add_lit, Nat.zero_add, hc]
      simpa using hj
    · exact prs_one (k := .u64) [(v, R.came)]
    intro v' w3 hs3 hf3 hv3
    have hT3 := hf3.at h3.blk (fun e => h3.nel _ e rfl)
    have hT4 := blk_cell hT3 2
    have f7 := blk_free hT3 1
    have c73 := blk_cell hT3 1
    simp at hT4 c73
    obtain ⟨ao', cap', rfl, _, _⟩ := hs3.shape
    have hpost := h3.put_L hf3 (L := R.L ++ [(v, R.came)]) (lv' := .slice ao' (mm + 1) cap') (by rw [prs_app, List.length_append, HM.out]; exact hs3) (hv3.imp id (fun e b hb => by rw [e] at hb; cases hb; exact Nat.le_refl _))
    have hT5 : (w3.setCell ⟨q, 1, none⟩ (.slice ao' (mm + 1) cap')).cell? ⟨q, 2, none⟩ = some (.int .i64 R.came) := by
      have := blk_cell (blk_set hT3 1 (.slice ao' (mm + 1) cap')) 2
      simpa using this
    have HQ := Lib.hid hpost
    clear hs3 hf3 hv3 hpost c7 hT h2 c7' h3
    refine hK _ _ hT4 ?_
    clear hK K
    simp only [Act.put, List.setIfInBounds_toArray, List.set_cons_zero, List.set_cons_succ]
    refine ord_take (o := ⟨some 35, _, _, _, _, none⟩) _ rfl (by rfl) (fun W hW => by (go_simp; with_reducible rfl)) ?_
    simp only [Act.put, List.setIfInBounds_toArray, List.set_cons_zero, List.set_cons_succ]
    refine ord_take (o := ⟨some 36, _, _, _, _, none⟩) _ rfl (by rfl) (fun W hW => by (go_simp; with_reducible rfl)) ?_
    simp only [Act.put, List.setIfInBounds_toArray, List.set_cons_zero, List.set_cons_succ]
    refine ord_alone (o := ⟨none, _, _, _, _, none⟩) rfl (by rfl) (fun K hK => ?_)
    go_simp
    refine hK _ _ hT5 ?_
    clear hK K
    refine ord_done ?_
    go_wp2_with fail
    go_ret
    exact ⟨rfl, by
      have hq := (HQ.out.from (hf2.alloc _) (fun _ h => h.elim)).from hfr (fun _ h => h)
      rw [← HR.out] at hq
      exact hq⟩
  · go_simp
    refine hK _ _ hT' ?_
    clear hK K
    refine ord_alone (o := ⟨some 26, _, _, _, _, none⟩) rfl (by rfl) (fun K hK => ?_)
    go_simp
    refine hK _ _ hT' ?_
    clear hK K
    refine ord_alone (o := ⟨some 34, _, _, _, _, none⟩) rfl (by rfl) (fun K hK => ?_)
    refine wp_append_sl (.tmp 26) (.tmp 33) 39 rfl 75 i0 (.agg #[.int .u64 0, .int .i64 0]) 2 16 Try.underlying39 hinf hz0 hz1 hz2 rfl (by decide) (.slice ao mm cap) mm (prs .u64 R.L) rfl (HM.out ▸ h3.ol) ⟨w2.heap.size, 0, none⟩ 1 1 [.int .u64 v, .int .i64 R.came] rfl rfl ?_ ?_ (by unfold maxLen; omega) (by omega) ?_
    · intro j u hj
      have hb := heap_alloc_new w2 (.cells #[.int .u64 v, .int .i64 R.came] 75)
      have hc := blk_cell hb j
      rw [Addr.add_lit, Nat.zero_add, hc]
      simpa using hj
    · exact prs_one (k := .u64) [(v, R.came)]
    intro v' w3 hs3 hf3 hv3
    have hT3 := hf3.at h3.blk (fun e => h3.nel _ e rfl)
    have hT4 := blk_cell hT3 2
    have f7 := blk_free hT3 1
    have c73 := blk_cell hT3 1
    simp at hT4 c73
    obtain ⟨ao', cap', rfl, _, _⟩ := hs3.shape
    have hpost := h3.put_L hf3 (L := R.L ++ [(v, R.came)]) (lv' := .slice ao' (mm + 1) cap') (by rw [prs_app, List.length_append, HM.out]; exact hs3) (hv3.imp id (fun e b hb => by rw [e] at hb; cases hb; exact Nat.le_refl _))
    have hT5 : (w3.setCell ⟨q, 1, none⟩ (.slice ao' (mm + 1) cap')).cell? ⟨q, 2, none⟩ = some (.int .i64 R.came) := by
      have := blk_cell (blk_set hT3 1 (.slice ao' (mm + 1) cap')) 2
      simpa using this
    have HQ := Lib.hid hpost
    clear hs3 hf3 hv3 hpost c7 hT h2 c7' h3
    refine hK _ _ hT4 ?_
    clear hK K
    simp only [Act.put, List.setIfInBounds_toArray, List.set_cons_zero, List.set_cons_succ]
    refine ord_take (o := ⟨some 35, _, _, _, _, none⟩) _ rfl (by rfl) (fun W hW => by (go_simp; with_reducible rfl)) ?_
    simp only [Act.put, List.setIfInBounds_toArray, List.set_cons_zero, List.set_cons_succ]
    refine ord_take (o := ⟨some 36, _, _, _, _, none⟩) _ rfl (by rfl) (fun W hW => by (go_simp; with_reducible rfl)) ?_
    simp only [Act.put, List.setIfInBounds_toArray, List.set_cons_zero, List.set_cons_succ]
    refine ord_alone (o := ⟨none, _, _, _, _, none⟩) rfl (by rfl) (fun K hK => ?_)
    go_simp
    refine hK _ _ hT5 ?_
    clear hK K
    refine ord_done ?_
    go_wp2_with fail
    go_ret
    exact ⟨rfl, by
      have hq := (HQ.out.from (hf2.alloc _) (fun _ h => h.elim)).from hfr (fun _ h => h)
      rw [← HR.out] at hq
      exact hq⟩

theorem RPut_full (q : Nat) (lv mv : Value) (R : Rx) (v : Int) (w : World) (h : Rb w q lv mv R) (hr : R.room ≤ (R.L.length : Int)) :
    Calls Try.prog 17 #[.pointer (some ⟨q, 0, none⟩), .int .u64 v] w fun e w' => e = .returned (.int .i64 110) ∧ RPost q lv mv R w w' := by
  obtain ⟨ao, cap, rfl, hcap, hmax⟩ := h.ol.shape
  unfold maxLen at hmax
  have b0 := blk_cell h.blk 0
  have b1 := blk_cell h.blk 1
  simp at b0 b1
  go_enter Try.func17, Try.ntmps17
  go_wp2_with fail
  go_quiet (fail)
  go_wp2
  go_ret
  exact ⟨rfl, h.same (below_drewN _ _)⟩

set_option maxHeartbeats 1600000 in
theorem RFind_any (q : Nat) (lv mv : Value) (R : Rx) (ref : Int) (w : World) (h : Rb w q lv mv R) (hl : R.ms.length ≤ 1000) :
    Calls Try.prog 46 #[.pointer (some ⟨q, 0, none⟩), .int .i64 ref] w fun e w' => e = .returned (.int .i64 (place (·.1) ref R.ms)) ∧ Below w.heap.size w w' := by
  obtain ⟨ao, cap, rfl, hcap, hmax⟩ := h.om.shape
  have c7 := blk_cell h.blk 6
  simp at c7
  unfold maxLen at hmax
  go_enter Try.func46, Try.ntmps46
  go_wp2_with fail
  go_loopg [12] R.ms.length (fun g s12 wr => ∃ k : Nat, k + g = R.ms.length ∧ s12 = .int .i64 k ∧ Below w.heap.size w wr ∧ Hid (∀ e ∈ R.ms.take k, e.1 ≠ ref))
  case atStart => exact ⟨0, by omega, rfl, Below.refl _ _, Lib.hid (by simp)⟩
  case round =>
    obtain ⟨k, hk, rfl, hb, hno⟩ := hrel
    cases gk with
    | zero =>
      obtain rfl : k = R.ms.length := by omega
      go_wp2_with fail
      go_ret
      have hn := hno.out
      rw [List.take_of_length_le (Nat.le_refl _)] at hn
      exact ⟨by rw [place_none hn]; rfl, hb⟩
    | succ g =>
      obtain ⟨⟨r, m⟩, hx⟩ : ∃ x, R.ms[k]? = some x := ⟨R.ms[k]'(by omega), List.getElem?_eq_getElem _⟩
      have hs := (h.keep (bel_fr0 hb) (fun _ _ h => h)).om
      obtain ⟨b, off, cap', hv', _, _, hcell⟩ := hs.rd.at (by omega)
      simp at hv'
      obtain ⟨rfl, rfl⟩ := hv'
      have d0 := hcell (k * 2) (by omega)
      have d1 := hcell (k * 2 + 1) (by omega)
      rw [(prs_at _ k r m hx).1] at d0
      rw [(prs_at _ k r m hx).2, ← Nat.add_assoc] at d1
      clear hcell hs
      have HX := Lib.hid hx
      clear hx
      obtain ⟨N, hN⟩ : ∃ N, wr.heap.size = N := ⟨_, rfl⟩
      obtain ⟨w2, hw2⟩ : ∃ w2, wr.alloc (.cells #[.int .i64 r, .int .i64 m] 80) = w2 := ⟨_, rfl⟩
      have hn2 : w2.heap[N]? = some (.cells #[.int .i64 r, .int .i64 m] 80 (0, 0)) := by subst hw2 hN; exact heap_alloc_new wr _
      have hb2 : Below w.heap.size w w2 := by subst hw2; exact hb.alloc hb.size _
      have e0 := blk_cell hn2 0
      simp at e0
      by_cases hr : r = ref
      · subst hr
        go_wp2_with fail
        go_ret
        exact ⟨by rw [place_some HX.out rfl hno.out]; rfl, hb2⟩
      · go_wp2_with fail
        go_roundg g
        case measure => omega
        case rel =>
          refine ⟨k + 1, by omega, by go_num, hb2, Lib.hid ?_⟩
          rw [List.take_add_one, HX.out]
          intro e he
          simp at he
          rcases he with he | rfl
          · exact hno.out e he
          · exact hr
end Go.Proofs.Ytgijaehmffojhaa
