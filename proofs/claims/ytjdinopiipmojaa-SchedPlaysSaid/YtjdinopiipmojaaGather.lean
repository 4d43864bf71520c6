/- The law's own loop over All: it gathers what All tells. -/
import Derived.Test.YtjdinopiipmojaaAll
import Derived.Test.YtjdinopiipmojaaIter
namespace Go.Proofs.Ytjdinopiipmojaa
open Go.RowKit Go.Shelf
attribute [local go_sem] Oper.semAt_some

theorem i64s_at {l : List Int} {k : Nat} {x : Int} (h : l[k]? = some x) : (i64s l)[k]? = some (.int .i64 x) := by simp [i64s, h]

set_option maxRecDepth 100000 in
set_option maxHeartbeats 1600000 in
/-- What All hands back, called with whatever loop body that keeps the list. -/
theorem all1_in (F : Fence) (hw : Hid (F = Fence.wide)) (h33 : F.fn 33) (hro : F.round = none) (n : Nat) (l Bc Bl : Nat) (v : Value) (ms : List Int) (hms : ms.length ≤ 1000) (J Jx : List Int → World → Prop)
    (W : World)
    (hY : ∀ pre x W, J pre W → pre.length < ms.length → YieldAt F (n - 1) Try.prog l #[.int .i64 x] W fun e W' =>
      (e = .returned (.bool true) ∧ J (pre ++ [x]) W' ∧ KpL Bl W W') ∨ (e = .returned (.bool false) ∧ Jx (pre ++ [x]) W'))
    (hBc : W.heap[Bc]? = some (.cells #[v] 39 (0, 0))) (hs : Sl W 2 1 v ms.length (i64s ms)) (hd : ∀ k, v.ownBlock = some k → k ≠ Bl ∧ rowOf W Bl ≠ some k) (h0 : J [] W) :
    CallsIn F n Try.prog 33 #[.func (.yield l) #[] #[], .pointer (some ⟨Bc, 0, none⟩)] W fun e W' => (∃ v, e = .returned v) ∧
      ((∃ ys, ys = ms ∧ J ys W') ∨ (∃ pre, pre <+: ms ∧ Jx pre W')) := by
  have cn := blk_cell hBc 0
  simp at cn
  obtain ⟨aoc, capc, rfl, hcc, hmc⟩ := hs.shape
  refine callsIn_of_wp Try.func33 rfl h33 ?_ hro
  simp only [Try.ntmps33, List.size_toArray, List.length_cons, List.length_nil, Nat.reduceAdd, Nat.reduceSub, Array.replicate_succ, Array.replicate_zero, List.push_toArray, List.append_toArray, List.nil_append, List.cons_append]
  have hml : ms.length ≤ 9223372036854775807 := by omega
  gi_wp2_with fail
  gi_loopw [4, 7] (fun _ s7 wr => ∃ k : Nat, k ≤ ms.length ∧ s7 = .int .i64 k ∧ J (ms.take k) wr ∧ Sl wr 2 1 (.slice aoc ms.length capc) ms.length (i64s ms) ∧ ∀ q, (Value.slice aoc ms.length capc).ownBlock = some q → q ≠ Bl ∧ rowOf wr Bl ≠ some q) (fun _ s7 _ => ms.length - (intOf s7).toNat)
  case atStart => exact ⟨0, by omega, rfl, by simpa using h0, hs, hd⟩
  case round =>
    clear h0 hs hd cn hBc
    obtain ⟨k, hk, rfl, hJk, hs, hd⟩ := hrel
    by_cases hkl : k < ms.length
    · obtain ⟨g, off, cap, cur, hv, _, _, hg, _, _⟩ := hs.blk (by omega)
      simp at hv
      obtain ⟨rfl, rfl⟩ := hv
      obtain ⟨x, hx⟩ : ∃ x, ms[k]? = some x := ⟨ms[k], List.getElem?_eq_getElem _⟩
      have hck := hs.cell k (by omega)
      rw [i64s_at hx] at hck
      have HX := Lib.hid hx
      clear hx hg
      obtain ⟨fn, tmps, assign, body, hy, hR⟩ := hY (ms.take k) x wr hJk (by simp; omega)
      clear hY
      gi_wp2_with fail
      refine ⟨depth_ok hw, hR.mono ?_⟩
      clear hR hy
      rintro e W3 (⟨rfl, hJ3, hk3⟩ | ⟨rfl, hJx3⟩)
      · obtain ⟨hs3, hd3⟩ := hk3.sl hs hd
        clear hk3 hs hd
        gi_wp2_with fail
        go_roundw
        case rel => exact ⟨k + 1, by omega, by go_num, by rw [List.take_add_one, HX.out]; exact hJ3, hs3, hd3⟩
        case measure => simp [intOf]; omega
      · gi_wp2_with fail
        refine bodyPost_ret (results_none rfl _ _ _) rfl ?_
        exact ⟨⟨_, rfl⟩, .inr ⟨ms.take k ++ [x], ⟨ms.drop (k + 1), by rw [← Option.toList_some (a := x), ← HX.out, ← List.take_add_one]; exact List.take_append_drop _ _⟩, hJx3⟩⟩
    · obtain rfl : k = ms.length := by omega
      gi_wp2_with fail
      go_end0
      exact ⟨⟨_, rfl⟩, .inl ⟨ms, rfl, by simpa using hJk⟩⟩

theorem all_stops (F : Fence) (hw : Hid (F = Fence.wide)) (h33 : F.fn 33) (hro : F.round = none) (n : Nat) (Bc Bl : Nat) (v : Value) (ms : List Int) (hms : ms.length ≤ 1000) (w : World)
    (hBc : w.heap[Bc]? = some (.cells #[v] 39 (0, 0))) (hBl : w.heap[Bl]? = some (.cells #[.slice none 0 0] 39 (0, 0))) (hs : Sl w 2 1 v ms.length (i64s ms)) (hd : ∀ k, v.ownBlock = some k → k ≠ Bl) :
    SeqStopsK F n Try.prog 33 #[.pointer (some ⟨Bc, 0, none⟩)] (fun x : Int => #[Value.int .i64 x]) (KpL Bl) (fun ys => ys = ms) (fun pre => pre <+: ms) ms.length w := fun l J Jx W hW hJ _ hY h0 =>
  have hBl' : W.heap[Bl]? = some (.cells #[.slice none 0 0] 39 (0, 0)) := (hW.block Bl (blk_lt hBl)).trans hBl
  all1_in F hw h33 hro n l Bc Bl v ms hms J Jx W hY ((hW.block Bc (blk_lt hBc)).trans hBc) (hs.keep fun k hk => hW.block k (hs.lt k hk))
    (fun k hk => ⟨hd k hk, by unfold rowOf; rw [blk_cell hBl']; simp [Value.ownBlock]⟩) h0
theorem seq_not_nilIn (w : World) (d f : Nat) (c : Array Value) : (Op.equalIn (d + 1) 58 (.func (.func f) #[] c) .nilFunc).run Try.prog w = .ok false w := by
  simp [Op.equalIn, run_underlying Try.underlying58]

theorem seq_not_nil (w : World) (f : Nat) (c : Array Value) : (binOp .eql 58 (.func (.func f) #[] c) .nilFunc).run Try.prog w = .ok (.bool false) w := by
  simp only [binOp]
  simp [Op.equal, Op.maxDepth, seq_not_nilIn w 9999 f c]

/-- The words that 'all' gathers: up to most (none such: all). -/
def cutTo (most : Int) (ms : List Int) : List Int := if 1 ≤ most ∧ most ≤ ms.length then ms.take most.toNat else ms

set_option maxRecDepth 100000 in
set_option maxHeartbeats 3200000 in
theorem all_gen (F : Fence) (hw : Hid (F = Fence.wide)) (hF : ∀ k, F.fn k) (hro : F.round = none) (n : Nat) (q : Option Addr) (ms : List Int) (hms : ms.length ≤ 1000) (most : Int) (w : World)
    (hall : ∀ m W0, Fr (fun _ => False) w W0 → CallsIn F m Try.prog 24 #[.pointer q] W0 fun e w' => ∃ Bl v, e = .returned (.func (.func 33) #[] #[.pointer (some ⟨Bl, 0, none⟩)]) ∧ w'.heap[Bl]? = some (.cells #[v] 39 (0, 0)) ∧ W0.heap.size ≤ Bl ∧
      Sl w' 2 1 v ms.length (i64s ms) ∧ (∀ k, v.ownBlock = some k → W0.heap.size ≤ k) ∧ Below W0.heap.size W0 w') :
    CallsIn F (n + 3) Try.prog 14 #[.pointer q, .int .i64 most] w fun e w' => ∃ v, e = .returned v ∧ Sl w' 2 1 v (cutTo most ms).length (i64s (cutTo most ms)) ∧ (∀ k, v.ownBlock = some k → w.heap.size ≤ k) ∧ Below w.heap.size w w' := by
  have h33 := hF 33
  have h24 := hF 24
  obtain ⟨i0, hinf, hz0, hz1, hz2⟩ := info_parts Try.info2
  have hseq := seq_not_nil
  obtain ⟨B, hB⟩ : ∃ B, w.heap.size = B := ⟨_, rfl⟩
  obtain ⟨W1, hW1⟩ : ∃ W1, (w.alloc (.cells #[.int .i64 most] 3)).alloc (.cells #[.slice none 0 0] 39) = W1 := ⟨_, rfl⟩
  have hm1 : W1.heap[B]? = some (.cells #[.int .i64 most] 3 (0, 0)) := by
    subst hW1 hB; exact blk_alloc (heap_alloc_new w _)
  have hl1 : W1.heap[B + 1]? = some (.cells #[.slice none 0 0] 39 (0, 0)) := by
    subst hW1 hB; have := heap_alloc_new (w.alloc (.cells #[.int .i64 most] 3)) (.cells #[.slice none 0 0] 39); rw [World.size_alloc] at this; exact this
  have hbel1 : Below B w W1 := by
    subst hW1 hB; exact ((Below.refl _ w).alloc (Nat.le_refl _) _).alloc (by simp) _
  have hs1 : W1.heap.size = B + 2 := by subst hW1 hB; simp
  have hf1 : Fr (fun _ => False) w W1 := by subst hW1; exact ((Fr.refl _ w).alloc _).alloc _
  refine callsIn_of_wp_marks Try.func14 rfl (hF 14) ?_ hro
  simp only [Try.ntmps14, List.size_toArray, List.length_cons, List.length_nil, Nat.reduceAdd, Nat.reduceSub, Array.replicate_succ, Array.replicate_zero, List.push_toArray, List.append_toArray, List.nil_append, List.cons_append]
  gi_wp2_with (gi_at_call 24; go_loud (refine (hall _ W1 hf1).mono ?_; rintro e W0 ⟨Bc, vc, rfl, hbc, hBc, hsc, hvc, hb0⟩))


  rw [hs1] at hBc hvc hb0
  have hm0 : W0.heap[B]? = some (.cells #[.int .i64 most] 3 (0, 0)) := (hb0.block B (by omega)).trans hm1
  have hl0 : W0.heap[B + 1]? = some (.cells #[.slice none 0 0] 39 (0, 0)) := (hb0.block (B + 1) (by omega)).trans hl1
  have hbel : Below B w W0 := hbel1.trans (hb0.mono (by omega))
  have hst := all_stops F hw h33 hro (n + 3 - 1) Bc (B + 1) vc ms hms W0 hbc hl0 hsc (fun k hk => by have := hvc k hk; omega)
  have HB := Lib.hid hB
  have HS := Lib.hid (show B + 2 ≤ W0.heap.size by have := hb0.size; omega)
  clear hB hf1 hall hs1 hm1 hl1 hbel1 hb0 hvc hsc hbc hW1
  refine wpIn_rangeFunc_ownG hro (by omega) (gf := 33) (lb := #[.pointer (some ⟨Bc, 0, none⟩)]) rfl h33 (enters_of Try.func33 (by kernel_rfl) rfl)
    hst KpL.t (KpL.b (by have := HS.out; omega)) (Below.refl _ _) (fun _ => rfl)
    (fun pre W => (∃ v, W.heap[B + 1]? = some (.cells #[v] 39 (0, 0)) ∧ Sl W 2 1 v pre.length (i64s pre) ∧ (∀ k, v.ownBlock = some k → B + 2 ≤ k)) ∧ W.heap[B]? = some (.cells #[.int .i64 most] 3 (0, 0)) ∧ Below B w W ∧ B + 2 ≤ W.heap.size ∧ ¬ (1 ≤ most ∧ most ≤ pre.length))
    (fun c pre W => c = .exit 0 ∧ (∃ v, W.heap[B + 1]? = some (.cells #[v] 39 (0, 0)) ∧ Sl W 2 1 v pre.length (i64s pre) ∧ (∀ k, v.ownBlock = some k → B + 2 ≤ k)) ∧ Below B w W ∧ 1 ≤ most ∧ most = pre.length)
    ?hI ?hIx ?h0
    (fun x => { tmps := #[.pointer q, .int .i64 most, undef, .pointer (some ⟨B, 0, none⟩), .slice none 0 0, .pointer (some ⟨B + 1, 0, none⟩), .func (.func 33) #[] #[.pointer (some ⟨Bc, 0, none⟩)], .int .i64 x, .pointer q, .func (.func 33) #[] #[.pointer (some ⟨Bc, 0, none⟩)], .func (.func 33) #[] #[.pointer (some ⟨Bc, 0, none⟩)], .bool false, .func (.func 33) #[] #[.pointer (some ⟨Bc, 0, none⟩)], .int .i64 x, undef, undef, undef, undef, undef, undef, undef, undef, undef], defers := [] }) ?assign ?body ?done ?stop
  case hI =>
    rintro s W W' row ⟨⟨v, h1, h2, h3⟩, h4, h5, h6, h7⟩ hg hr
    have hr' := fun r e => (hr r e).2
    exact ⟨⟨v, own_blk h1 hg hr', own_sl h2 hg hr', h3⟩, own_blk h4 hg hr', h5.grown hg (by omega) (fun k e => by have := (hr k e).1; have := HS.out; omega), Nat.le_trans h6 hg.size, h7⟩
  case hIx =>
    rintro c s W W' row ⟨h0, ⟨v, h1, h2, h3⟩, h5, h7⟩ hg hr
    have hr' := fun r e => (hr r e).2
    exact ⟨h0, ⟨v, own_blk h1 hg hr', own_sl h2 hg hr', h3⟩, h5.grown hg (by have := h5.size; have := HB.out; omega) (fun k e => by have := (hr k e).1; have := HS.out; omega), h7⟩
  case h0 => exact ⟨⟨_, hl0, Sl.nil _ _ _, by simp [Value.ownBlock]⟩, hm0, hbel, by have := HS.out; omega, by simp; omega⟩
  case assign =>
    intro l x W K hK
    gi_wp2
    exact hK
  case body =>
    clear hm0 hl0 hbel hst
    rintro l pre x W ⟨⟨v, h1, h2, h3⟩, h4, h5, h6, h7⟩ hlt
    obtain ⟨aov, capv, rfl, hcv, hmv⟩ := h2.shape
    have cl := blk_cell h1 0
    have cm := blk_cell h4 0
    simp at cl cm
    have hsz := HS.out
    have hfr : Fr (fun k => k = B + 1 ∨ (Value.slice aov pre.length capv).ownBlock = some k) W (W.alloc (.cells #[.int .i64 x] 2)) := (Fr.refl _ _).alloc _
    have hother : KeepsOthers W (W.alloc (.cells #[.int .i64 x] 2)) := KeepsOthers.alloc _ _
    have hdis := h2.ne h1 (by decide)
    gi_wp2_with (gi_at_builtin; refine wpListIn_append_sl rfl (.tmp 14) (.tmp 16) 39 rfl 2 i0 (.int .i64 0) 1 8 Try.underlying39 hinf hz0 hz1 hz2 rfl (by decide) _ pre.length (i64s pre) rfl (h2.alloc _) ⟨W.heap.size, 0, none⟩ 1 1 [.int .i64 x] rfl rfl (cell_one_new _ _ _) (by simp [Value.oneCell']) (by unfold maxLen; omega) (by omega) ?nx)
    case nx =>
    intro v' w1 hs1 hf1 hv1
    obtain ⟨aov', capv', rfl, hcv', hmv'⟩ := hs1.shape
    have h1' := hf1.at (blk_alloc (o' := .cells #[.int .i64 x] 2) h1) (fun e => hdis _ e rfl)
    have h4' := hf1.at (blk_alloc (o' := .cells #[.int .i64 x] 2) h4) (fun e => by have := h3 _ e; omega)
    have hfr1 := hfr.trans (hf1.mono fun k hk => Or.inr hk)
    clear cl cm hfr hother hf1
    have cl := blk_cell h1' 0
    have fl := blk_free h1' 0
    have cm := blk_cell h4' 0
    simp at cl cm
    have hs2 := hs1.set_other (a := ⟨B + 1, 0, none⟩) (.slice aov' (pre.length + 1) capv') (hs1.ne h1' (by decide))
    have h1'' := blk_set h1' 0 (.slice aov' (pre.length + 1) capv')
    have h4'' := (blk_set_other (w := w1) (b := B) (a := ⟨B + 1, 0, none⟩) (.slice aov' (pre.length + 1) capv') (by simp)).trans h4'
    have hfr2 := hfr1.setCell (p := ⟨B + 1, 0, none⟩) (Or.inl (Or.inl rfl)) (.slice aov' (pre.length + 1) capv')
    have hown : ∀ k, (Value.slice aov' (pre.length + 1) capv').ownBlock = some k → (Value.slice aov pre.length capv).ownBlock = some k ∨ W.heap.size ≤ k := by
      intro k hk
      rcases hv1 with h | h
      · exact .inl (h ▸ hk)
      · rw [h] at hk; simp at hk; exact .inr (by omega)
    have HB2 := Lib.hid (hfr2.below (B := B) (by omega) (fun k hk => by rcases hk with rfl | hk; omega; have := h3 k hk; omega))
    have HO := Lib.hid (hfr2.others (fun k hk _ => by
      rcases hk with rfl | hk
      · exact ⟨_, _, _, h1⟩
      · obtain ⟨c, hc⟩ := h2.cells k hk; exact ⟨c, _, _, hc⟩))
    have HK : Hid (KpL (B + 1) W (w1.setCell ⟨B + 1, 0, none⟩ (.slice aov' (pre.length + 1) capv'))) := by
      refine ⟨hfr2.size, fun k c t fr hk hne hr => hfr2.block k (blk_lt hk) ?_, fun k hk => ?_⟩
      · rintro (h | h)
        · exact hne h
        · exact hr ((rowOf_at h1).trans h)
      · rw [rowOf_at h1'' ] at hk
        rw [rowOf_at h1]
        exact hown k hk
    have HI : Hid ((∃ v, (w1.setCell ⟨B + 1, 0, none⟩ (.slice aov' (pre.length + 1) capv')).heap[B + 1]? = some (.cells #[v] 39 (0, 0)) ∧ Sl (w1.setCell ⟨B + 1, 0, none⟩ (.slice aov' (pre.length + 1) capv')) 2 1 v (pre ++ [x]).length (i64s (pre ++ [x])) ∧ (∀ k, v.ownBlock = some k → B + 2 ≤ k))) :=
      ⟨_, h1'', by simpa [i64s] using hs2, fun k hk => by rcases hown k hk with h | h; exact h3 k h; omega⟩
    have H4 := Lib.hid h4''
    clear hs1 hs2 h1'' h4'' hfr2 hfr1 h1' h4' hv1
    by_cases hmost : most = (pre.length : Int) + 1
    · have ht : ((pre.length : Int) + 1 == most) = true := by simp; omega
      gi_wp2_with fail
      exact ⟨HO.out.from _, rfl, HI.out, h5.trans HB2.out, by omega, by simp; omega⟩
    · have ht : ((pre.length : Int) + 1 == most) = false := by simp; omega
      gi_wp2_with fail
      exact ⟨HO.out.from _, HK.out, HI.out, H4.out, h5.trans HB2.out, Nat.le_trans h6 HO.out.size, by simp; omega⟩
  case done =>
    rintro D ys W hD rfl ⟨⟨v, h1, h2, h3⟩, h4, h5, h6, h7⟩ hK
    have cl := blk_cell h1 0
    simp at cl
    have hsz := HS.out
    have HC := Lib.hid (show cutTo most ys = ys by unfold cutTo; rw [if_neg h7])
    clear hm0 hl0 hbel hst h4 h7
    obtain ⟨aov, capv, rfl, hcv, hmv⟩ := h2.shape
    gi_wp2
    refine ⟨by simp, .inl ⟨_, _, rfl, run_takeDeferred hK, ?_⟩⟩
    refine ⟨_, results_tmp rfl _ _ _, _, rfl, ?_, fun k hk => ?_, ?_⟩
    · rw [HC.out]
      exact own_sl h2 (grownBy_putObj' W D _) (fun r e => by cases e; exact ⟨_, hK, rfl⟩)
    · have := h3 k hk; have := HB.out; omega
    · rw [HB.out]
      exact h5.grown (grownBy_putObj' W D _) (by omega) (fun k e => by cases e; omega)
  case stop =>
    rintro D c pre W hD hpre ⟨rfl, ⟨v, h1, h2, h3⟩, h5, h6, h7⟩ hK
    have cl := blk_cell h1 0
    simp at cl
    have hsz := HS.out
    have HC := Lib.hid (show cutTo most ms = pre by
      obtain ⟨t, rfl⟩ := hpre
      unfold cutTo
      rw [if_pos ⟨h6, by simp; omega⟩, h7]
      simp)
    clear hm0 hl0 hbel hst h7
    obtain ⟨aov, capv, rfl, hcv, hmv⟩ := h2.shape
    gi_wp2
    refine ⟨by simp, .inl ⟨_, _, rfl, run_takeDeferred hK, ?_⟩⟩
    refine ⟨_, results_tmp rfl _ _ _, _, rfl, ?_, fun k hk => ?_, ?_⟩
    · rw [HC.out]
      exact own_sl h2 (grownBy_putObj' W D _) (fun r e => by cases e; exact ⟨_, hK, rfl⟩)
    · have := h3 k hk; have := HB.out; omega
    · rw [HB.out]
      exact h5.grown (grownBy_putObj' W D _) (by have := h5.size; have := HB.out; omega) (fun k e => by cases e; omega)

theorem all_any (p bm : Nat) (vs : Int → Value) (c : Int) (L : Int → List Int) (w : World) (hq : Qb w p bm vs c L) (hlen : sumL L 4 ≤ 1000) (hc0 : 0 ≤ c) (hc8 : c ≤ 8) (full : List Int) (hfull : qrun (sumL L 4) L c = full) (most : Int) :
    Calls Try.prog 14 #[.pointer (some ⟨p, 0, none⟩), .int .i64 most] w fun e w' => ∃ v, e = .returned v ∧ Sl w' 2 1 v (cutTo most full).length (i64s (cutTo most full)) ∧ (∀ k, v.ownBlock = some k → w.heap.size ≤ k) ∧ Below w.heap.size w w' :=
  callsIn_wide.1 (all_gen Fence.wide (Lib.hid rfl) (fun _ => trivial) rfl 0 (some ⟨p, 0, none⟩) full (by rw [← hfull, qrun_length _ _ _ rfl]; exact hlen) most w fun m W0 hf =>
    callsIn_of (Lib.hid rfl) (All_any p bm vs c L W0 (hq.keep hf (fun _ _ h => h)) hlen hc0 hc8 full hfull))

theorem all_nil (w : World) (most : Int) :
    Calls Try.prog 14 #[.pointer none, .int .i64 most] w fun e w' => ∃ v, e = .returned v ∧ Sl w' 2 1 v 0 [] ∧ (∀ k, v.ownBlock = some k → w.heap.size ≤ k) ∧ Below w.heap.size w w' := by
  have h := callsIn_wide.1 (all_gen Fence.wide (Lib.hid rfl) (fun _ => trivial) rfl 0 none [] (by simp) most w fun m W0 hf => callsIn_of (Lib.hid rfl) (All_nil W0))
  have e : cutTo most [] = [] := by unfold cutTo; split <;> simp
  rw [e] at h
  exact h
end Go.Proofs.Ytjdinopiipmojaa
