/- The document's queue: Copy, All. -/
import Derived.Test.YtjdinopiipmojaaRef2
namespace Go.Proofs.Ytjdinopiipmojaa
open Go.RowKit

/-- A queue of the document that the call itself made. -/
structure RIn (B : Nat) (w0 w : World) (q : Nat) (v : Value) (E : List (Int × Int)) (c : Int) : Prop where
  r : Rq w q v E c
  lies : ∀ k, rf q v k → B ≤ k
  below : Below B w0 w
  size : B ≤ w.heap.size

theorem RIn.step {B : Nat} {w0 w w' : World} {q : Nat} {v : Value} {E E' : List (Int × Int)} {c c' : Int} (h : RIn B w0 w q v E c) (hp : RPost q v E' c' w w') : ∃ v', RIn B w0 w' q v' E' c' := by
  obtain ⟨v', hb, hf, hg⟩ := hp
  have hs := h.size
  exact ⟨v', hb, fun k hk => by rcases hg k hk with x | x; exact h.lies k x; omega, h.below.trans (hf.below h.size h.lies), Nat.le_trans h.size hf.size⟩

theorem RIn.keep {B : Nat} {w0 w w' : World} {q : Nat} {v : Value} {E : List (Int × Int)} {c : Int} (h : RIn B w0 w q v E c) {F : Nat → Prop} (hf : Fr F w w') (hF : ∀ k, rf q v k → ¬ F k) (hB : ∀ k, F k → B ≤ k) : RIn B w0 w' q v E c :=
  ⟨h.r.keep hf hF, h.lies, h.below.trans (hf.below h.size hB), Nat.le_trans h.size hf.size⟩

theorem wp_append_rd {P : Program} {Q : Exit → Act → World → Prop} {w : World} {o : Oper} {a : Act} (s x : Operand) (t : TypeId)
    (ho : o.op = .call { callee := .builtin .append, args := #[s, x], argTypes := #[t, t] })
    (e : TypeId) (i : TypeInfo) (z : Value) (size bytes : Nat) (ht : P.underlying t = some (.slice e)) (hi : P.info? e = some i) (hz : i.zero = some z)
    (hsize : i.size = size) (hby : i.bytes = bytes) (hzs : z.cells.size = size) (hsz : 0 < size)
    (v : Value) (n : Nat) (xs : List Value) (hs : a.eval s = v) (hown : Sl w e size v n xs)
    (y : Value) (m : Nat) (news : List Value) (hx : a.eval x = y) (hrd : Rd w size y m news) (h1 : ∀ u ∈ news, u.oneCell' = true)
    (h63 : n + m ≤ maxLen) (hbytes : (n + m) * bytes ≤ 140737488355328) {K : Act → World → Prop}
    (h : ∀ v' w', Sl w' e size v' (n + m) (xs ++ news) → Fr (fun k => v.ownBlock = some k) w w' → (v'.ownBlock = v.ownBlock ∨ v'.ownBlock = some w.heap.size) → K (a.put o.dst v') w') : o.wp P a w K Q := by
  obtain ⟨v', w', hr, h2, h3, h4⟩ := run_append_sl_rd (P := P) w t o.type e i z size bytes ht hi hz hsize hby hzs hsz v n xs hown y m news hrd h1 h63 hbytes
  unfold Oper.wp execOp
  simp only [ho, resolve, invoke, builtin, Sem.run_bind, Sem.run_pure, Result.andThen_ok, List.map_toArray, List.map_cons, List.map_nil, hs, hx, hr]
  exact h v' w' h2 h3 h4

set_option maxHeartbeats 1600000 in
theorem RCopy_any (q : Nat) (v : Value) (E : List (Int × Int)) (c : Int) (w : World) (hq : Rq w q v E c) (hl : E.length ≤ 1000) :
    Calls Try.prog 17 #[.pointer (some ⟨q, 0, none⟩)] w fun e w' => e = .returned (.pointer (some ⟨w.heap.size, 0, none⟩)) ∧ ∃ v', RIn w.heap.size w w' w.heap.size v' E c := by
  obtain ⟨i0, hinf, hz0, hz1, hz2⟩ := info_parts Try.info64
  obtain ⟨ao, cap, rfl, hcap, hmax⟩ := hq.own.shape
  obtain ⟨X, hX⟩ : ∃ X, w.heap.size = X := ⟨_, rfl⟩
  obtain ⟨w1, hw1⟩ : ∃ w1, w.alloc (.cells #[.slice none 0 0, .int .i64 c] 46) = w1 := ⟨_, rfl⟩
  have hf1 : Fr (fun _ => False) w w1 := by subst hw1; exact (Fr.refl _ w).alloc _
  have hq1 := hq.keep hf1 (fun _ _ h => h)
  have hx1 : w1.heap[X]? = some (.cells #[.slice none 0 0, .int .i64 c] 46 (0, 0)) := by subst hw1 hX; exact heap_alloc_new w _
  have hqX : q < X := by rw [← hX]; exact blk_lt hq.blk
  have hoX : ∀ k, (Value.slice ao E.length cap).ownBlock = some k → k < X := fun k hk => by rw [← hX]; exact hq.own.lt k hk
  have b1 := blk_cell hq.blk 1
  simp at b1
  unfold maxLen at hmax
  have HX := Lib.hid hX
  go_enter Try.func17, Try.ntmps17
  rw [hX]
  go_upto_region 2 with fail
  have hq2 : Rq w1.drew q (.slice ao E.length cap) E c := hq1.keep ((Fr.refl (fun _ => False) w1).drew) (fun _ _ h => h)
  have hx2 : w1.drew.heap[X]? = some (.cells #[.slice none 0 0, .int .i64 c] 46 (0, 0)) := hx1
  have hf2 : Fr (fun _ => False) w w1.drew := hf1.drew
  refine wp_region_ord (Ord.take 0 (.take 1 (.take 2 (.take 3 (.take 5 (.take 6 (.take 7 (.fork 4 8 (.alone 8 (.alone 9 (.take 10 (.take 11 (.alone 12 .done))))) (.alone 4 (.alone 9 (.take 10 (.take 11 (.alone 12 .done)))))))))))))
    (fun W => True) (by kernel_rfl) (by kernel_rfl) (by kernel_rfl) (fun c a d v w h => by cases d <;> exact h) trivial ?_
  generalize w1.drew = w2 at hq2 hx2 hf2 ⊢
  clear hq1 hx1 hf1 hw1 b1
  have c0 := blk_cell hq2.blk 0
  have x0 := blk_cell hx2 0
  simp at c0 x0
  have hs2 := hf2.size
  have hxlt := blk_lt hx2
  refine ord_take (o := ⟨some 10, _, _, _, _, none⟩) _ rfl (by rfl) (fun W hW => by (go_simp; with_reducible rfl)) ?_
  simp only [Act.put, List.setIfInBounds_toArray, List.set_cons_zero, List.set_cons_succ]
  refine ord_take (o := ⟨some 11, _, _, _, _, none⟩) _ rfl (by rfl) (fun W hW => by (go_simp; with_reducible rfl)) ?_
  simp only [Act.put, List.setIfInBounds_toArray, List.set_cons_zero, List.set_cons_succ]
  refine ord_take (o := ⟨some 12, _, _, _, _, none⟩) _ rfl (by rfl) (fun W hW => by (go_simp; with_reducible rfl)) ?_
  simp only [Act.put, List.setIfInBounds_toArray, List.set_cons_zero, List.set_cons_succ]
  refine ord_take (o := ⟨some 13, _, _, _, _, none⟩) _ rfl (by rfl) (fun W hW => by (go_simp; with_reducible rfl)) ?_
  simp only [Act.put, List.setIfInBounds_toArray, List.set_cons_zero, List.set_cons_succ]
  refine ord_take (o := ⟨some 15, _, _, _, _, none⟩) _ rfl (by rfl) (fun W hW => by (go_simp; with_reducible rfl)) ?_
  simp only [Act.put, List.setIfInBounds_toArray, List.set_cons_zero, List.set_cons_succ]
  refine ord_take (o := ⟨some 16, _, _, _, _, none⟩) _ rfl (by rfl) (fun W hW => by (go_simp; with_reducible rfl)) ?_
  simp only [Act.put, List.setIfInBounds_toArray, List.set_cons_zero, List.set_cons_succ]
  refine ord_take (o := ⟨some 17, _, _, _, _, none⟩) _ rfl (by rfl) (fun W hW => by (go_simp; with_reducible rfl)) ?_
  simp only [Act.put, List.setIfInBounds_toArray, List.set_cons_zero, List.set_cons_succ]
  refine ord_fork (oi := ⟨some 14, _, _, _, _, none⟩) (oj := ⟨some 18, _, _, _, _, none⟩) rfl rfl (by rfl) (by rfl) (fun K hK => ?_) (fun K hK => ?_)
  · go_simp
    refine hK _ _ trivial ?_
    clear hK K
    refine ord_alone (o := ⟨some 18, _, _, _, _, none⟩) rfl (by rfl) (fun K hK => ?_)
    go_simp
    refine hK _ _ trivial ?_
    clear hK K
    refine ord_alone (o := ⟨some 19, _, _, _, _, none⟩) rfl (by rfl) (fun K hK => ?_)
    refine wp_append_rd (.tmp 14) (.tmp 18) 44 rfl 64 i0 (.agg #[.int .i64 0, .int .i64 0]) 2 16 Try.underlying44 hinf hz0 hz1 hz2 rfl (by decide) (.slice none 0 0) 0 [] rfl (Sl.nil _ _ _) _ E.length (ents E) rfl hq2.own.rd (ents_one _) (by unfold maxLen; omega) (by omega) ?_
    intro v3 w3 hs3 hf3 hv3
    have hf3' : Fr (fun _ => False) w2 w3 := hf3.mono (by simp [Value.ownBlock])
    have hx3 := hf3'.at hx2 (fun h => h)
    have hs6 : Sl w3 64 2 v3 E.length (ents E) := by simpa using hs3
    obtain ⟨ao5, cap5, rfl, _, _⟩ := hs6.shape
    have hn3 : ∀ k, (Value.slice ao5 E.length cap5).ownBlock = some k → X + 1 ≤ k := by
      intro k hk
      rcases hv3 with h | h
      · rw [h] at hk; simp [Value.ownBlock] at hk
      · rw [h] at hk; simp at hk; omega
    have x1 := blk_cell hx3 0
    have f1 := blk_free hx3 0
    simp at x1
    have hne := hs6.ne hx3 (by decide)
    have hfw : Fr (fun _ => False) w w3 := hf2.trans hf3'
    clear hs3 hf3 hv3 hf3' hf2 c0 x0 hq2 hx2
    refine hK _ _ trivial ?_
    clear hK K
    simp only [Act.put, List.setIfInBounds_toArray, List.set_cons_zero, List.set_cons_succ]
    refine ord_take (o := ⟨some 20, _, _, _, _, none⟩) _ rfl (by rfl) (fun W hW => by (go_simp; with_reducible rfl)) ?_
    simp only [Act.put, List.setIfInBounds_toArray, List.set_cons_zero, List.set_cons_succ]
    refine ord_take (o := ⟨some 21, _, _, _, _, none⟩) _ rfl (by rfl) (fun W hW => by (go_simp; with_reducible rfl)) ?_
    simp only [Act.put, List.setIfInBounds_toArray, List.set_cons_zero, List.set_cons_succ]
    refine ord_alone (o := ⟨none, _, _, _, _, none⟩) rfl (by rfl) (fun K hK => ?_)
    go_simp
    refine hK _ _ trivial ?_
    clear hK K
    refine ord_done ?_
    go_wp2_with fail
    go_ret
    refine ⟨rfl, _, ⟨⟨by rw [blk_set hx3]; rfl, hs6.set_other (a := ⟨X, 0, none⟩) _ hne⟩, fun k hk => ?_, (hfw.setCell (p := ⟨X, 0, none⟩) (Or.inr (by show w.heap.size ≤ X; rw [HX.out]; exact Nat.le_refl _)) _).below (by rw [HX.out]; exact Nat.le_refl _) (fun _ h => h.elim), ?_⟩⟩
    · rcases hk with rfl | hk
      · exact Nat.le_refl _
      · have := hn3 k hk; omega
    · have := hfw.size
      rw [HX.out] at this
      simpa [World.setCell] using this
  · go_simp
    refine hK _ _ trivial ?_
    clear hK K
    refine ord_alone (o := ⟨some 14, _, _, _, _, none⟩) rfl (by rfl) (fun K hK => ?_)
    go_simp
    refine hK _ _ trivial ?_
    clear hK K
    refine ord_alone (o := ⟨some 19, _, _, _, _, none⟩) rfl (by rfl) (fun K hK => ?_)
    refine wp_append_rd (.tmp 14) (.tmp 18) 44 rfl 64 i0 (.agg #[.int .i64 0, .int .i64 0]) 2 16 Try.underlying44 hinf hz0 hz1 hz2 rfl (by decide) (.slice none 0 0) 0 [] rfl (Sl.nil _ _ _) _ E.length (ents E) rfl hq2.own.rd (ents_one _) (by unfold maxLen; omega) (by omega) ?_
    intro v3 w3 hs3 hf3 hv3
    have hf3' : Fr (fun _ => False) w2 w3 := hf3.mono (by simp [Value.ownBlock])
    have hx3 := hf3'.at hx2 (fun h => h)
    have hs6 : Sl w3 64 2 v3 E.length (ents E) := by simpa using hs3
    obtain ⟨ao5, cap5, rfl, _, _⟩ := hs6.shape
    have hn3 : ∀ k, (Value.slice ao5 E.length cap5).ownBlock = some k → X + 1 ≤ k := by
      intro k hk
      rcases hv3 with h | h
      · rw [h] at hk; simp [Value.ownBlock] at hk
      · rw [h] at hk; simp at hk; omega
    have x1 := blk_cell hx3 0
    have f1 := blk_free hx3 0
    simp at x1
    have hne := hs6.ne hx3 (by decide)
    have hfw : Fr (fun _ => False) w w3 := hf2.trans hf3'
    clear hs3 hf3 hv3 hf3' hf2 c0 x0 hq2 hx2
    refine hK _ _ trivial ?_
    clear hK K
    simp only [Act.put, List.setIfInBounds_toArray, List.set_cons_zero, List.set_cons_succ]
    refine ord_take (o := ⟨some 20, _, _, _, _, none⟩) _ rfl (by rfl) (fun W hW => by (go_simp; with_reducible rfl)) ?_
    simp only [Act.put, List.setIfInBounds_toArray, List.set_cons_zero, List.set_cons_succ]
    refine ord_take (o := ⟨some 21, _, _, _, _, none⟩) _ rfl (by rfl) (fun W hW => by (go_simp; with_reducible rfl)) ?_
    simp only [Act.put, List.setIfInBounds_toArray, List.set_cons_zero, List.set_cons_succ]
    refine ord_alone (o := ⟨none, _, _, _, _, none⟩) rfl (by rfl) (fun K hK => ?_)
    go_simp
    refine hK _ _ trivial ?_
    clear hK K
    refine ord_done ?_
    go_wp2_with fail
    go_ret
    refine ⟨rfl, _, ⟨⟨by rw [blk_set hx3]; rfl, hs6.set_other (a := ⟨X, 0, none⟩) _ hne⟩, fun k hk => ?_, (hfw.setCell (p := ⟨X, 0, none⟩) (Or.inr (by show w.heap.size ≤ X; rw [HX.out]; exact Nat.le_refl _)) _).below (by rw [HX.out]; exact Nat.le_refl _) (fun _ h => h.elim), ?_⟩⟩
    · rcases hk with rfl | hk
      · exact Nat.le_refl _
      · have := hn3 k hk; omega
    · have := hfw.size
      rw [HX.out] at this
      simpa [World.setCell] using this

theorem cutE_len {E : List (Int × Int)} {i : Nat} (h : i < E.length) : (cutE E i).length = E.length - 1 := by
  unfold cutE; simp; omega

theorem cutE_mem {E : List (Int × Int)} {i : Nat} {e : Int × Int} (h : e ∈ cutE E i) : e ∈ E := by
  unfold cutE at h
  rw [List.mem_append] at h
  rcases h with h | h
  · exact List.mem_of_mem_take h
  · exact List.mem_of_mem_drop h

set_option maxHeartbeats 1600000 in
theorem RAll_any (q : Nat) (v : Value) (E : List (Int × Int)) (c : Int) (w : World) (hq : Rq w q v E c) (hl : E.length ≤ 1000) (hp : ∀ e ∈ E, 1 ≤ e.2 ∧ e.2 ≤ 4) (c0 : 0 ≤ c) (c1 : c ≤ 1125899906842624) (full : List Int) (hfull : qrun E.length (lst E) (min c 8) = full) :
    Calls Try.prog 21 #[.pointer (some ⟨q, 0, none⟩)] w fun e w' => ∃ v, e = .returned v ∧ Sl w' 2 1 v full.length (i64s full) ∧ (∀ k, v.ownBlock = some k → w.heap.size ≤ k) ∧ Below w.heap.size w w' := by
  obtain ⟨i0, hinf, hz0, hz1, hz2⟩ := info_parts Try.info2
  obtain ⟨B, hB⟩ : ∃ B, w.heap.size = B := ⟨_, rfl⟩
  have HP := Lib.hid hp
  have HF := Lib.hid hfull
  have HB := Lib.hid hB
  clear hp hfull
  go_enter Try.func21, Try.ntmps21
  go_wp2_with fail
  refine (RCopy_any q v E c _ hq hl).mono ?_
  rintro e w1 ⟨rfl, v1, hr⟩
  rw [hB] at hr ⊢
  clear hB hq
  go_wp2_with fail
  go_loopg [4, 5, 6] E.length (fun g s4 s5 s6 wr => ∃ v' E' c' pre, E'.length = g ∧ RIn B w wr B v' E' c' ∧ Sl wr 2 1 s4 pre.length (i64s pre) ∧ Hid (∀ k, s4.ownBlock = some k → ¬ rf B v' k ∧ B ≤ k) ∧
    Hid (full = pre ++ qrun E'.length (lst E') (min c' 8)) ∧ 0 ≤ c' ∧ c' + g ≤ 1125899906843648 ∧ pre.length + g = E.length ∧ Hid (∀ e ∈ E', 1 ≤ e.2 ∧ e.2 ≤ 4))
  case atStart => exact ⟨v1, E, c, [], rfl, hr, Sl.nil _ _ _, Lib.hid (by simp [Value.ownBlock]), Lib.hid (by rw [HF.out]; rfl), c0, by omega, by simp, HP⟩
  case round =>
    clear hr
    obtain ⟨v', E', c', pre, hg, hr, hs, hv, hful, c0', c1', hlen, hpr⟩ := hrel
    have hsum := sum_len E' hpr.out
    obtain ⟨aos, caps, rfl, hcs, hms⟩ := hs.shape
    cases gk with
    | zero =>
      have hE : E' = [] := List.eq_nil_of_length_eq_zero hg
      subst hE
      have HR := Lib.hid (show rturn [] c' = -1 by rfl)
      have hff := hful.out
      simp [qrun] at hff
      subst hff
      clear hful hsum
      go_wp2_with fail
      refine (RNext_none B v' [] c' _ hr.r HR.out).mono ?_
      rintro e w2 ⟨rfl, rfl⟩
      go_wp2_with fail
      go_ret
      exact ⟨_, rfl, hs, fun k hk => by rw [HB.out]; exact (hv.out k hk).2, by rw [HB.out]; exact hr.below⟩
    | succ g =>
      rcases turn_same E' c' with ⟨_, h0⟩ | ⟨i, x, k, h1, h2, h3, k1, k4, h5, h6⟩
      · have := sum_of_turn h0; omega
      have hil : i < E'.length := (List.getElem?_eq_some_iff.1 h2).1
      have hcl := cutE_len hil
      have hrun : qrun E'.length (lst E') (min c' 8) = x :: qrun (cutE E' i).length (lst (cutE E' i)) (min (rcount k c') 8) := by
        rw [show E'.length = (cutE E' i).length + 1 by omega, qrun_step h3 k1 h5, h6, rcount_min]
      have hful2 := hful.out
      rw [hrun] at hful2
      have HFL := Lib.hid hful2
      have H1 := Lib.hid h1
      have H2 := Lib.hid h2
      have HC := Lib.hid hcl
      have hc2 : 0 ≤ rcount k c' ∧ rcount k c' ≤ c' + 1 := by unfold rcount; split; omega; split; omega; omega
      have HPC := Lib.hid (fun e (he : e ∈ cutE E' i) => hpr.out e (cutE_mem he))
      clear h1 h2 h3 h5 h6 hrun hful hful2 hcl hsum
      unfold maxLen at hms
      go_wp2_with fail
      refine (RNext_some B v' E' c' _ hr.r (by omega) i x k H1.out H2.out c0' (by omega)).mono ?_
      rintro e w2 ⟨rfl, hp⟩
      obtain ⟨v2, hr2, hs2, hv2⟩ : ∃ v2, RIn B w w2 B v2 (cutE E' i) (rcount k c') ∧ Sl w2 2 1 (.slice aos pre.length caps) pre.length (i64s pre) ∧ Hid (∀ k, (Value.slice aos pre.length caps).ownBlock = some k → ¬ rf B v2 k ∧ B ≤ k) := by
        obtain ⟨v2, hb, hf, hg'⟩ := hp
        have hsz := hr.size
        refine ⟨v2, ⟨hb, fun k hk => by rcases hg' k hk with x | x; exact hr.lies k x; omega, hr.below.trans (hf.below hr.size hr.lies), Nat.le_trans hr.size hf.size⟩, hf.sl hs (fun k hk => (hv.out k hk).1), Lib.hid fun k hk => ⟨fun h => ?_, (hv.out k hk).2⟩⟩
        rcases hg' k h with h' | h'
        · exact (hv.out k hk).1 h'
        · have := hs.lt k hk; omega
      clear hp hr hs hv
      go_wp2_with (at_builtin; refine wpList_append_sl rfl (.tmp 17) (.tmp 19) 39 rfl 2 i0 (.int .i64 0) 1 8 Try.underlying39 hinf hz0 hz1 hz2 rfl (by decide) (.slice aos pre.length caps) pre.length (i64s pre) rfl (hs2.alloc _) ⟨w2.heap.size, 0, none⟩ 1 1 [.int .i64 x] rfl rfl ?cc1 ?cc2 ?b1 ?b2 ?next)
      case cc1 =>
        intro j u hj
        have hb := heap_alloc_new w2 (.cells #[.int .i64 x] 2)
        have hc := blk_cell hb j
        rw [Addr.add_lit, Nat.zero_add, hc]
        simpa using hj
      case cc2 => exact i64s_one [x]
      case b1 => unfold maxLen; omega
      case b2 => omega
      case next =>
        intro v3 w3 hs3 hf3 hv3
        have hfr : Fr (fun k => (Value.slice aos pre.length caps).ownBlock = some k) w2 w3 := ((Fr.refl _ w2).alloc _).trans hf3
        have hr3 := hr2.keep hfr (fun k hk hF => (hv2.out k hF).1 hk) (fun k hF => (hv2.out k hF).2)
        have hv4 : Hid (∀ k, v3.ownBlock = some k → ¬ rf B v2 k ∧ B ≤ k) := Lib.hid fun k hk => by
          rcases hv3 with h | h
          · exact hv2.out k (h ▸ hk)
          · rw [h] at hk
            simp at hk
            have := hr2.size
            exact ⟨fun h' => by have := hr2.r.lt k h'; omega, by omega⟩
        clear hs2 hv2 hr2 hf3 hv3 hfr
        go_wp2_with fail
        go_roundg g
        case measure => omega
        case rel =>
          exact ⟨v2, _, _, pre ++ [x], by rw [HC.out]; omega, hr3, by simpa using hs3, hv4, Lib.hid (by rw [HFL.out]; simp), hc2.1, by omega, by simp; omega, HPC⟩
end Go.Proofs.Ytjdinopiipmojaa
