/- All: the messages, one by one; and the law's own loop that gathers them. -/
import Derived.Test.YtbedgeimpobhdaaWords
import Derived.Test.YtbedgeimpobhdaaIter
namespace Go.Proofs.Ytbedgeimpobhdaa
open Go.RowKit Go.Shelf
attribute [local go_sem] Oper.semAt_some

set_option maxRecDepth 100000 in
set_option maxHeartbeats 1600000 in
/-- What All hands back, called with whatever loop body that keeps the clone. -/
theorem all1_in (F : Fence) (hw : Hid (F = Fence.wide)) (h34 : F.fn 34) (h35 : F.fn 35) (hro : F.round = none) (n : Nat) (l Bn Bl p : Nat) (room : Int) (at_ : Nat) (ex : Int) (ms : List Int) (sl : Value) (hms : ms.length ≤ 1000) (J Jx : List Int → World → Prop)
    (W : World) (hJ : AbidesFrom W.heap.size J)
    (hY : ∀ pre x W, J pre W → pre.length < ms.length → YieldAt F (n - 1) Try.prog l #[.int .u64 x] W fun e W' =>
      (e = .returned (.bool true) ∧ J (pre ++ [x]) W' ∧ KpL Bl W W') ∨ (e = .returned (.bool false) ∧ Jx (pre ++ [x]) W'))
    (hBn : W.heap[Bn]? = some (.cells #[.pointer (some ⟨p, 0, none⟩)] 23 (0, 0))) (hBl : rowOf W Bl = none) (hlt : Bl < W.heap.size) (hb : Box W p room at_ ex ms sl) (h0 : J [] W) :
    CallsIn F n Try.prog 34 #[.func (.yield l) #[] #[], .pointer (some ⟨Bn, 0, none⟩)] W fun e W' => (∃ v, e = .returned v) ∧
      ((∃ ys, ys = ms ∧ J ys W') ∨ (∃ pre, pre <+: ms ∧ Jx pre W')) := by
  have cn := blk_cell hBn 0
  have c1 := blk_cell hb.blk 1
  simp at cn c1
  refine callsIn_of_wp Try.func34 rfl h34 ?_ hro
  simp only [Try.ntmps34, List.size_toArray, List.length_cons, List.length_nil, Nat.reduceAdd, Nat.reduceSub, Array.replicate_succ, Array.replicate_zero, List.push_toArray, List.append_toArray, List.nil_append, List.cons_append]
  refine wpIn_scope_wide hw ?_
  gi_wp2
  refine wpIn_label ?_
  obtain ⟨aos, caps, rfl, _, _⟩ := hb.own.shape
  gi_wp2_with fail
  refine ⟨depth_ok hw, (callsIn_of hw (Clone_any _ _ ms W hb.own.rd hms)).mono ?_⟩
  rintro e W1 ⟨vc, rfl, hsc, hfc, hgc⟩
  have hJ1 : J [] W1 := hJ _ _ _ _ h0 (hfc.grownBy (fun _ h => h)) (fun r e => by cases e)
  have hd1 : ∀ k, vc.ownBlock = some k → k ≠ Bl ∧ rowOf W1 Bl ≠ some k := by
    intro k hk
    have := hgc k hk
    refine ⟨by omega, ?_⟩
    have e1 : rowOf W1 Bl = rowOf W Bl := by
      unfold rowOf
      rw [World.cell?_of_block (w := W) (a := ⟨Bl, 0, none⟩) (hfc.block Bl hlt (fun h => h))]
    rw [e1, hBl]
    simp
  obtain ⟨aoc, capc, rfl, hcc, hmc⟩ := hsc.shape
  have hml : ms.length ≤ 9223372036854775807 := by omega
  clear hfc hgc h0 hJ hBl hb hBn c1 cn
  gi_wp2_with fail
  gi_loopw [4, 14] (fun _ s14 wr => ∃ k : Nat, k ≤ ms.length ∧ s14 = .int .i64 k ∧ J (ms.take k) wr ∧ Sl wr 28 1 (.slice aoc ms.length capc) ms.length (u64s ms) ∧ ∀ q, (Value.slice aoc ms.length capc).ownBlock = some q → q ≠ Bl ∧ rowOf wr Bl ≠ some q) (fun _ s14 _ => ms.length - (intOf s14).toNat)
  case atStart => exact ⟨0, by omega, rfl, by simpa using hJ1, hsc, hd1⟩
  case round =>
    clear hJ1 hsc hd1
    obtain ⟨k, hk, rfl, hJk, hs, hd⟩ := hrel
    by_cases hkl : k < ms.length
    · obtain ⟨g, off, cap, cur, hv, _, _, hg, _, _⟩ := hs.blk (by omega)
      simp at hv
      obtain ⟨rfl, rfl⟩ := hv
      obtain ⟨x, hx⟩ : ∃ x, ms[k]? = some x := ⟨ms[k], List.getElem?_eq_getElem _⟩
      have hck := hs.cell k (by omega)
      rw [u64s_at hx] at hck
      have HX := Lib.hid hx
      clear hx hg
      obtain ⟨fn, tmps, assign, body, hy, hR⟩ := hY (ms.take k) x wr hJk (by simp; omega)
      clear hY
      gi_wp2_with fail
      refine ⟨depth_ok hw, hR.mono ?_⟩
      clear hR hy
      rintro e W3 (⟨rfl, hJ3, hk3⟩ | ⟨rfl, hJx3⟩)
      · obtain ⟨hs3, hd3⟩ := hk3.sl hs hd
        clear hk3 hs hd
        gi_wp2_with fail
        go_roundw
        case rel => exact ⟨k + 1, by omega, by go_num, by rw [List.take_add_one, HX.out]; exact hJ3, hs3, hd3⟩
        case measure => simp [intOf]; omega
      · gi_wp2_with fail
        rw [Exit.noGoto_normal]
        go_end0
        exact ⟨⟨_, rfl⟩, .inr ⟨ms.take k ++ [x], ⟨ms.drop (k + 1), by rw [← Option.toList_some (a := x), ← HX.out, ← List.take_add_one]; exact List.take_append_drop _ _⟩, hJx3⟩⟩
    · obtain rfl : k = ms.length := by omega
      gi_wp2_with fail
      rw [Exit.noGoto_normal]
      go_end0
      exact ⟨⟨_, rfl⟩, .inl ⟨ms, rfl, by simpa using hJk⟩⟩

/-- b.All(): the receiver is boxed; the function value captures the box. -/
theorem allf_in (F : Fence) (n : Nat) (h27 : F.fn 27) (hro : F.round = none) (p : Option Addr) (w : World) :
    CallsIn F n Try.prog 27 #[.pointer p] w fun e w' => e = .returned (.func (.func 34) #[] #[.pointer (some ⟨w.heap.size, 0, none⟩)]) ∧ w' = w.alloc (.cells #[.pointer p] 23) := by
  refine callsIn_of_wp Try.func27 rfl h27 ?_ hro
  simp only [Try.ntmps27, List.size_toArray, List.length_cons, List.length_nil, Nat.reduceAdd, Nat.reduceSub, Array.replicate_succ, Array.replicate_zero, List.push_toArray, List.append_toArray, List.nil_append, List.cons_append]
  gi_wp2
  go_ret
  exact ⟨rfl, rfl⟩

theorem all_stops (F : Fence) (hw : Hid (F = Fence.wide)) (h34 : F.fn 34) (h35 : F.fn 35) (hro : F.round = none) (n : Nat) (Bn Bl p : Nat) (room : Int) (at_ : Nat) (ex : Int) (ms : List Int) (sl : Value) (hms : ms.length ≤ 1000) (w : World)
    (hBn : w.heap[Bn]? = some (.cells #[.pointer (some ⟨p, 0, none⟩)] 23 (0, 0))) (hBl : w.heap[Bl]? = some (.cells #[.slice none 0 0] 22 (0, 0))) (hb : Box w p room at_ ex ms sl) :
    SeqStopsK F n Try.prog 34 #[.pointer (some ⟨Bn, 0, none⟩)] (fun x : Int => #[Value.int .u64 x]) (KpL Bl) (fun ys => ys = ms) (fun pre => pre <+: ms) ms.length w := fun l J Jx W hW hJ _ hY h0 =>
  have hf : Fr (fun k => w.heap.size ≤ k) w W := ⟨hW.os, hW.tape, hW.output, hW.size, fun k hk _ => hW.block k hk⟩
  have hBl' : W.heap[Bl]? = some (.cells #[.slice none 0 0] 22 (0, 0)) := (hW.block Bl (blk_lt hBl)).trans hBl
  all1_in F hw h34 h35 hro n l Bn Bl p room at_ ex ms sl hms J Jx W hJ hY ((hW.block Bn (blk_lt hBn)).trans hBn)
    (by unfold rowOf; rw [blk_cell hBl']; simp [Value.ownBlock]) (blk_lt hBl') (hb.keep hf (fun k hk h => by have := hb.lt k hk; omega)) h0

theorem seq_not_nilIn (w : World) (d f : Nat) (c : Array Value) : (Op.equalIn (d + 1) 60 (.func (.func f) #[] c) .nilFunc).run Try.prog w = .ok false w := by
  simp [Op.equalIn, run_underlying Try.underlying60]

theorem seq_not_nil (w : World) (f : Nat) (c : Array Value) : (binOp .eql 60 (.func (.func f) #[] c) .nilFunc).run Try.prog w = .ok (.bool false) w := by
  simp only [binOp]
  simp [Op.equal, Op.maxDepth, seq_not_nilIn w 9999 f c]

/-- The words that 'all' gathers: up to most (none such: all). -/
def cutTo (most : Int) (ms : List Int) : List Int := if 1 ≤ most ∧ most ≤ ms.length then ms.take most.toNat else ms

set_option maxRecDepth 100000 in
set_option maxHeartbeats 3200000 in
theorem all_gen (F : Fence) (hF : ∀ k, F.fn k) (hro : F.round = none) (n : Nat) (q : Option Addr) (ms : List Int) (hms : ms.length ≤ 1000) (most : Int) (w : World)
    (hit : ∀ W0, Fr (fun _ => False) w W0 → W0.heap[w.heap.size + 1 + 1]? = some (.cells #[.pointer q] 23 (0, 0)) → W0.heap[w.heap.size + 1]? = some (.cells #[.slice none 0 0] 22 (0, 0)) →
      SeqStopsK F (n + 3 - 1) Try.prog 34 #[.pointer (some ⟨w.heap.size + 1 + 1, 0, none⟩)] (fun x : Int => #[Value.int .u64 x]) (KpL (w.heap.size + 1)) (fun ys => ys = ms) (fun pre => pre <+: ms) ms.length W0) :
    CallsIn F (n + 3) Try.prog 16 #[.pointer q, .int .i64 most] w fun e w' => ∃ v, e = .returned v ∧ Sl w' 28 1 v (cutTo most ms).length (u64s (cutTo most ms)) ∧ (∀ k, v.ownBlock = some k → w.heap.size ≤ k) ∧ Below w.heap.size w w' := by
  have h34 := hF 34
  have h27 := hF 27
  obtain ⟨i0, hinf, hz0, hz1, hz2⟩ := info_parts Try.info28
  have hseq := seq_not_nil
  refine callsIn_of_wp_marks Try.func16 rfl (hF 16) ?_ hro
  simp only [Try.ntmps16, List.size_toArray, List.length_cons, List.length_nil, Nat.reduceAdd, Nat.reduceSub, Array.replicate_succ, Array.replicate_zero, List.push_toArray, List.append_toArray, List.nil_append, List.cons_append]
  gi_wp2_with (gi_at_call 27; refine (allf_in F _ h27 hro _ _).mono ?_; rintro e w' ⟨rfl, rfl⟩)
  obtain ⟨B, hB⟩ : ∃ B, w.heap.size = B := ⟨_, rfl⟩
  simp only [hB] at hit ⊢
  obtain ⟨W0, hW0⟩ : ∃ W0, ((w.alloc (.cells #[.int .i64 most] 3)).alloc (.cells #[.slice none 0 0] 22)).alloc (.cells #[.pointer q] 23) = W0 := ⟨_, rfl⟩
  have hm0 : W0.heap[B]? = some (.cells #[.int .i64 most] 3 (0, 0)) := by
    subst hW0 hB; exact blk_alloc (blk_alloc (heap_alloc_new w _))
  have hl0 : W0.heap[B + 1]? = some (.cells #[.slice none 0 0] 22 (0, 0)) := by
    subst hW0 hB; have := heap_alloc_new (w.alloc (.cells #[.int .i64 most] 3)) (.cells #[.slice none 0 0] 22); rw [World.size_alloc] at this; exact blk_alloc this
  have hn0 : W0.heap[B + 1 + 1]? = some (.cells #[.pointer q] 23 (0, 0)) := by
    subst hW0 hB; have := heap_alloc_new ((w.alloc (.cells #[.int .i64 most] 3)).alloc (.cells #[.slice none 0 0] 22)) (.cells #[.pointer q] 23); rw [World.size_alloc, World.size_alloc] at this; exact this
  have hbel : Below B w W0 := by
    subst hW0 hB; exact (((Below.refl _ w).alloc (Nat.le_refl _) _).alloc (by simp) _).alloc (by simp; omega) _
  have hs0 : B + 3 = W0.heap.size := by subst hW0 hB; simp
  have hf0 : Fr (fun _ => False) w W0 := by subst hW0; exact (((Fr.refl _ w).alloc _).alloc _).alloc _
  have hst := hit W0 hf0 hn0 hl0
  rw [hW0]
  have HB := Lib.hid hB
  have HS := Lib.hid hs0
  clear hW0 hB hf0 hit hs0
  refine wpIn_rangeFunc_ownG hro (by omega) (gf := 34) (lb := #[.pointer (some ⟨B + 1 + 1, 0, none⟩)]) rfl h34 (enters_of Try.func34 (by kernel_rfl) rfl)
    hst KpL.t (KpL.b (by have := HS.out; omega)) (Below.refl _ _) (fun _ => rfl)
    (fun pre W => (∃ v, W.heap[B + 1]? = some (.cells #[v] 22 (0, 0)) ∧ Sl W 28 1 v pre.length (u64s pre) ∧ (∀ k, v.ownBlock = some k → B + 3 ≤ k)) ∧ W.heap[B]? = some (.cells #[.int .i64 most] 3 (0, 0)) ∧ Below B w W ∧ B + 3 ≤ W.heap.size ∧ ¬ (1 ≤ most ∧ most ≤ pre.length))
    (fun c pre W => c = .exit 0 ∧ (∃ v, W.heap[B + 1]? = some (.cells #[v] 22 (0, 0)) ∧ Sl W 28 1 v pre.length (u64s pre) ∧ (∀ k, v.ownBlock = some k → B + 3 ≤ k)) ∧ Below B w W ∧ 1 ≤ most ∧ most = pre.length)
    ?hI ?hIx ?h0
    (fun x => { tmps := #[.pointer q, .int .i64 most, undef, .pointer (some ⟨B, 0, none⟩), .slice none 0 0, .pointer (some ⟨B + 1, 0, none⟩), .func (.func 34) #[] #[.pointer (some ⟨B + 1 + 1, 0, none⟩)], .int .u64 x, .pointer q, .func (.func 34) #[] #[.pointer (some ⟨B + 1 + 1, 0, none⟩)], .func (.func 34) #[] #[.pointer (some ⟨B + 1 + 1, 0, none⟩)], .bool false, .func (.func 34) #[] #[.pointer (some ⟨B + 1 + 1, 0, none⟩)], .int .u64 x, undef, undef, undef, undef, undef, undef, undef, undef, undef], defers := [] }) ?assign ?body ?done ?stop
  case hI =>
    rintro s W W' row ⟨⟨v, h1, h2, h3⟩, h4, h5, h6, h7⟩ hg hr
    have hr' := fun r e => (hr r e).2
    exact ⟨⟨v, own_blk h1 hg hr', own_sl h2 hg hr', h3⟩, own_blk h4 hg hr', h5.grown hg (by omega) (fun k e => by have := (hr k e).1; have := HS.out; omega), Nat.le_trans h6 hg.size, h7⟩
  case hIx =>
    rintro c s W W' row ⟨h0, ⟨v, h1, h2, h3⟩, h5, h7⟩ hg hr
    have hr' := fun r e => (hr r e).2
    exact ⟨h0, ⟨v, own_blk h1 hg hr', own_sl h2 hg hr', h3⟩, h5.grown hg (by have := h5.size; have := HB.out; omega) (fun k e => by have := (hr k e).1; have := HS.out; omega), h7⟩
  case h0 => exact ⟨⟨_, hl0, Sl.nil _ _ _, by simp [Value.ownBlock]⟩, hm0, hbel, by have := HS.out; omega, by simp; omega⟩
  case assign =>
    intro l x W K hK
    gi_wp2
    exact hK
  case body =>
    clear hm0 hl0 hn0 hbel hst
    rintro l pre x W ⟨⟨v, h1, h2, h3⟩, h4, h5, h6, h7⟩ hlt
    obtain ⟨aov, capv, rfl, hcv, hmv⟩ := h2.shape
    have cl := blk_cell h1 0
    have cm := blk_cell h4 0
    simp at cl cm
    have hsz := HS.out
    have hfr : Fr (fun k => k = B + 1 ∨ (Value.slice aov pre.length capv).ownBlock = some k) W (W.alloc (.cells #[.int .u64 x] 28)) := (Fr.refl _ _).alloc _
    have hother : KeepsOthers W (W.alloc (.cells #[.int .u64 x] 28)) := KeepsOthers.alloc _ _
    have hdis := h2.ne h1 (by decide)
    gi_wp2_with (gi_at_builtin; refine wpListIn_append_sl rfl (.tmp 14) (.tmp 16) 22 rfl 28 i0 (.int .u64 0) 1 8 Try.underlying22 hinf hz0 hz1 hz2 rfl (by decide) _ pre.length (u64s pre) rfl (h2.alloc _) ⟨W.heap.size, 0, none⟩ 1 1 [.int .u64 x] rfl rfl (cell_one_new _ _ _) (by simp [Value.oneCell']) (by unfold maxLen; omega) (by omega) ?nx)
    case nx =>
    intro v' w1 hs1 hf1 hv1
    obtain ⟨aov', capv', rfl, hcv', hmv'⟩ := hs1.shape
    have h1' := hf1.at (blk_alloc (o' := .cells #[.int .u64 x] 28) h1) (fun e => hdis _ e rfl)
    have h4' := hf1.at (blk_alloc (o' := .cells #[.int .u64 x] 28) h4) (fun e => by have := h3 _ e; omega)
    have hfr1 := hfr.trans (hf1.mono fun k hk => Or.inr hk)
    clear cl cm hfr hother hf1
    have cl := blk_cell h1' 0
    have fl := blk_free h1' 0
    have cm := blk_cell h4' 0
    simp at cl cm
    have hs2 := hs1.set_other (a := ⟨B + 1, 0, none⟩) (.slice aov' (pre.length + 1) capv') (hs1.ne h1' (by decide))
    have h1'' := blk_set h1' 0 (.slice aov' (pre.length + 1) capv')
    have h4'' := (blk_set_other (w := w1) (b := B) (a := ⟨B + 1, 0, none⟩) (.slice aov' (pre.length + 1) capv') (by simp)).trans h4'
    have hfr2 := hfr1.setCell (p := ⟨B + 1, 0, none⟩) (Or.inl (Or.inl rfl)) (.slice aov' (pre.length + 1) capv')
    have hown : ∀ k, (Value.slice aov' (pre.length + 1) capv').ownBlock = some k → (Value.slice aov pre.length capv).ownBlock = some k ∨ W.heap.size ≤ k := by
      intro k hk
      rcases hv1 with h | h
      · exact .inl (h ▸ hk)
      · rw [h] at hk; simp at hk; exact .inr (by omega)
    have HB2 := Lib.hid (hfr2.below (B := B) (by omega) (fun k hk => by rcases hk with rfl | hk; omega; have := h3 k hk; omega))
    have HO := Lib.hid (hfr2.others (fun k hk _ => by
      rcases hk with rfl | hk
      · exact ⟨_, _, _, h1⟩
      · obtain ⟨c, hc⟩ := h2.cells k hk; exact ⟨c, _, _, hc⟩))
    have HK : Hid (KpL (B + 1) W (w1.setCell ⟨B + 1, 0, none⟩ (.slice aov' (pre.length + 1) capv'))) := by
      refine ⟨hfr2.size, fun k c t fr hk hne hr => hfr2.block k (blk_lt hk) ?_, fun k hk => ?_⟩
      · rintro (h | h)
        · exact hne h
        · exact hr ((rowOf_at h1).trans h)
      · rw [rowOf_at h1'' ] at hk
        rw [rowOf_at h1]
        exact hown k hk
    have HI : Hid ((∃ v, (w1.setCell ⟨B + 1, 0, none⟩ (.slice aov' (pre.length + 1) capv')).heap[B + 1]? = some (.cells #[v] 22 (0, 0)) ∧ Sl (w1.setCell ⟨B + 1, 0, none⟩ (.slice aov' (pre.length + 1) capv')) 28 1 v (pre ++ [x]).length (u64s (pre ++ [x])) ∧ (∀ k, v.ownBlock = some k → B + 3 ≤ k))) :=
      ⟨_, h1'', by simpa [u64s] using hs2, fun k hk => by rcases hown k hk with h | h; exact h3 k h; omega⟩
    have H4 := Lib.hid h4''
    clear hs1 hs2 h1'' h4'' hfr2 hfr1 h1' h4' hv1
    by_cases hmost : most = (pre.length : Int) + 1
    · have ht : ((pre.length : Int) + 1 == most) = true := by simp; omega
      gi_wp2_with fail
      exact ⟨HO.out.from _, rfl, HI.out, h5.trans HB2.out, by omega, by simp; omega⟩
    · have ht : ((pre.length : Int) + 1 == most) = false := by simp; omega
      gi_wp2_with fail
      exact ⟨HO.out.from _, HK.out, HI.out, H4.out, h5.trans HB2.out, Nat.le_trans h6 HO.out.size, by simp; omega⟩
  case done =>
    rintro D ys W hD rfl ⟨⟨v, h1, h2, h3⟩, h4, h5, h6, h7⟩ hK
    have cl := blk_cell h1 0
    simp at cl
    have hsz := HS.out
    have HC := Lib.hid (show cutTo most ys = ys by unfold cutTo; rw [if_neg h7])
    clear hm0 hl0 hn0 hbel hst h4 h7
    obtain ⟨aov, capv, rfl, hcv, hmv⟩ := h2.shape
    gi_wp2
    refine ⟨by simp, .inl ⟨_, _, rfl, run_takeDeferred hK, ?_⟩⟩
    refine ⟨_, results_tmp rfl _ _ _, _, rfl, ?_, fun k hk => ?_, ?_⟩
    · rw [HC.out]
      exact own_sl h2 (grownBy_putObj' W D _) (fun r e => by cases e; exact ⟨_, hK, rfl⟩)
    · have := h3 k hk; have := HB.out; omega
    · rw [HB.out]
      exact h5.grown (grownBy_putObj' W D _) (by omega) (fun k e => by cases e; omega)
  case stop =>
    rintro D c pre W hD hpre ⟨rfl, ⟨v, h1, h2, h3⟩, h5, h6, h7⟩ hK
    have cl := blk_cell h1 0
    simp at cl
    have hsz := HS.out
    have HC := Lib.hid (show cutTo most ms = pre by
      obtain ⟨t, rfl⟩ := hpre
      unfold cutTo
      rw [if_pos ⟨h6, by simp; omega⟩, h7]
      simp)
    clear hm0 hl0 hn0 hbel hst h7
    obtain ⟨aov, capv, rfl, hcv, hmv⟩ := h2.shape
    gi_wp2
    refine ⟨by simp, .inl ⟨_, _, rfl, run_takeDeferred hK, ?_⟩⟩
    refine ⟨_, results_tmp rfl _ _ _, _, rfl, ?_, fun k hk => ?_, ?_⟩
    · rw [HC.out]
      exact own_sl h2 (grownBy_putObj' W D _) (fun r e => by cases e; exact ⟨_, hK, rfl⟩)
    · have := h3 k hk; have := HB.out; omega
    · rw [HB.out]
      exact h5.grown (grownBy_putObj' W D _) (by have := h5.size; have := HB.out; omega) (fun k e => by cases e; omega)

theorem all_any (p : Nat) (room : Int) (at_ : Nat) (ex : Int) (ms : List Int) (sl : Value) (hms : ms.length ≤ 1000) (most : Int) (w : World) (hb : Box w p room at_ ex ms sl) :
    Calls Try.prog 16 #[.pointer (some ⟨p, 0, none⟩), .int .i64 most] w fun e w' => ∃ v, e = .returned v ∧ Sl w' 28 1 v (cutTo most ms).length (u64s (cutTo most ms)) ∧ (∀ k, v.ownBlock = some k → w.heap.size ≤ k) ∧ Below w.heap.size w w' :=
  callsIn_wide.1 (all_gen Fence.wide (fun _ => trivial) rfl 0 (some ⟨p, 0, none⟩) ms hms most w fun W0 hf hn hl =>
    all_stops Fence.wide (Lib.hid rfl) trivial trivial rfl _ _ _ p room at_ ex ms sl hms W0 hn hl (hb.keep hf (fun _ _ h => h)))

set_option maxRecDepth 100000 in
theorem nil_stops (F : Fence) (hw : Hid (F = Fence.wide)) (h34 : F.fn 34) (hro : F.round = none) (n Bn Bl : Nat) (w : World)
    (hBn : w.heap[Bn]? = some (.cells #[.pointer none] 23 (0, 0))) :
    SeqStopsK F n Try.prog 34 #[.pointer (some ⟨Bn, 0, none⟩)] (fun x : Int => #[Value.int .u64 x]) (KpL Bl) (fun ys => ys = []) (fun pre => pre <+: []) 0 w := fun l J Jx W hW _ _ _ h0 => by
  have cn := blk_cell ((hW.block Bn (blk_lt hBn)).trans hBn) 0
  simp at cn
  refine callsIn_of_wp Try.func34 rfl h34 ?_ hro
  simp only [Try.ntmps34, List.size_toArray, List.length_cons, List.length_nil, Nat.reduceAdd, Nat.reduceSub, Array.replicate_succ, Array.replicate_zero, List.push_toArray, List.append_toArray, List.nil_append, List.cons_append]
  refine wpIn_scope_wide hw ?_
  gi_wp2
  refine bodyPost_ret (results_none rfl _ _ _) rfl ?_
  exact ⟨⟨_, rfl⟩, .inl h0⟩

theorem all_nil (most : Int) (w : World) :
    Calls Try.prog 16 #[.pointer none, .int .i64 most] w fun e w' => ∃ v, e = .returned v ∧ Sl w' 28 1 v 0 [] ∧ Below w.heap.size w w' :=
  (callsIn_wide.1 (all_gen Fence.wide (fun _ => trivial) rfl 0 none [] (by simp) most w fun W0 _ hn _ =>
    nil_stops Fence.wide (Lib.hid rfl) trivial rfl _ _ _ W0 hn)).mono fun e w' ⟨v, he, hs, _, hb⟩ => ⟨v, he, by
      have : cutTo most [] = [] := by unfold cutTo; split <;> simp
      rw [this] at hs; exact hs, hb⟩
end Go.Proofs.Ytbedgeimpobhdaa
