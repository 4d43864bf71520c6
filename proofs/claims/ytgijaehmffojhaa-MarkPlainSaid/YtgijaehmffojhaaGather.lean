/- The law's own loop over All: it gathers the words. -/
import Derived.Test.YtgijaehmffojhaaAll60
import Derived.Test.YtgijaehmffojhaaOldLaw
namespace Go.Proofs.Ytgijaehmffojhaa
open Go.RowKit Go.Shelf
attribute [local go_sem] Oper.semAt_some

theorem Try.info26 : (Try.prog.info? 26).map (fun i => (i.zero, i.size, i.bytes)) = some (some (.int .u64 0), 1, 8) := by kernel_rfl

theorem kpl_b {b : Nat} {w : World} (hb : b < w.heap.size) (W : World) (l : Nat) (o o' : Obj) (hl : w.heap.size ≤ l) (h : W.heap[l]? = some o) (hc : o.isCells = false) : KpL b W (W.putObj l o') := by
  refine ⟨by simp, fun k c t fr hk _ _ => World.putObj_heap_other (fun e => ?_), fun k hk => .inl ?_⟩
  · subst e; rw [h] at hk; cases hk; simp [Obj.isCells] at hc
  · have : rowOf (W.putObj l o') b = rowOf W b := by
      unfold rowOf
      rw [World.cell?_of_block (w := W) (a := ⟨b, 0, none⟩) (World.putObj_heap_other (by show b ≠ l; omega))]
    rw [← this]; exact hk

/-- b.All(): the receiver is boxed; the function value captures the box. -/
theorem allf_in (F : Fence) (n : Nat) (h44 : F.fn 44) (hro : F.round = none) (p : Option Addr) (w : World) :
    CallsIn F n Try.prog 44 #[.pointer p] w fun e w' => e = .returned (.func (.func 60) #[] #[.pointer (some ⟨w.heap.size, 0, none⟩)]) ∧ w' = w.alloc (.cells #[.pointer p] 23) := by
  refine callsIn_of_wp Try.func44 rfl h44 ?_ hro
  simp only [Try.ntmps44, List.size_toArray, List.length_cons, List.length_nil, Nat.reduceAdd, Nat.reduceSub, Array.replicate_succ, Array.replicate_zero, List.push_toArray, List.append_toArray, List.nil_append, List.cons_append]
  gi_wp2
  go_ret
  exact ⟨rfl, rfl⟩

theorem seq_not_nilIn (w : World) (d f : Nat) (c : Array Value) : (Op.equalIn (d + 1) 62 (.func (.func f) #[] c) .nilFunc).run Try.prog w = .ok false w := by
  simp [Op.equalIn, run_underlying Try.underlying62]

theorem seq_not_nil (w : World) (f : Nat) (c : Array Value) : (binOp .eql 62 (.func (.func f) #[] c) .nilFunc).run Try.prog w = .ok (.bool false) w := by
  simp only [binOp]
  simp [Op.equal, Op.maxDepth, seq_not_nilIn w 9999 f c]

/-- The words that 'all' gathers: up to most (none such: all). -/
def cutTo (most : Int) (ms : List Int) : List Int := if 1 ≤ most ∧ most ≤ ms.length then ms.take most.toNat else ms

set_option maxRecDepth 100000 in
set_option maxHeartbeats 3200000 in
theorem all_gen (F : Fence) (hF : ∀ k, F.fn k) (hro : F.round = none) (n : Nat) (q : Option Addr) (ms : List Int) (hms : ms.length ≤ 64) (most : Int) (w : World)
    (hit : ∀ W0, Fr (fun _ => False) w W0 → W0.heap[w.heap.size + 1 + 1]? = some (.cells #[.pointer q] 23 (0, 0)) → W0.heap[w.heap.size + 1]? = some (.cells #[.slice none 0 0] 22 (0, 0)) →
      SeqO F (n + 2) Try.prog 60 #[] #[.pointer (some ⟨w.heap.size + 1 + 1, 0, none⟩)] (fun x : Int => #[Value.int .u64 x]) (KpL (w.heap.size + 1)) ms (W0.heap.size + 2) W0) :
    CallsIn F (n + 3) Try.prog 16 #[.pointer q, .int .i64 most] w fun e w' => ∃ v, e = .returned v ∧ Sl w' 26 1 v (cutTo most ms).length (u64s (cutTo most ms)) ∧ (∀ k, v.ownBlock = some k → w.heap.size ≤ k) ∧ Below w.heap.size w w' := by
  have h60 := hF 60
  have h44 := hF 44
  obtain ⟨i0, hinf, hz0, hz1, hz2⟩ := info_parts Try.info26
  have hseq := seq_not_nil
  refine callsIn_of_wp_marks Try.func16 rfl (hF 16) ?_ hro
  simp only [Try.ntmps16, List.size_toArray, List.length_cons, List.length_nil, Nat.reduceAdd, Nat.reduceSub, Array.replicate_succ, Array.replicate_zero, List.push_toArray, List.append_toArray, List.nil_append, List.cons_append]
  gi_wp2_with (gi_at_call 44; refine (allf_in F _ h44 hro _ _).mono ?_; rintro e w' ⟨rfl, rfl⟩)
  obtain ⟨B, hB⟩ : ∃ B, w.heap.size = B := ⟨_, rfl⟩
  simp only [hB] at hit ⊢
  obtain ⟨W0, hW0⟩ : ∃ W0, ((w.alloc (.cells #[.int .i64 most] 3)).alloc (.cells #[.slice none 0 0] 22)).alloc (.cells #[.pointer q] 23) = W0 := ⟨_, rfl⟩
  have hm0 : W0.heap[B]? = some (.cells #[.int .i64 most] 3 (0, 0)) := by
    subst hW0 hB; exact blk_alloc (blk_alloc (heap_alloc_new w _))
  have hl0 : W0.heap[B + 1]? = some (.cells #[.slice none 0 0] 22 (0, 0)) := by
    subst hW0 hB; have := heap_alloc_new (w.alloc (.cells #[.int .i64 most] 3)) (.cells #[.slice none 0 0] 22); rw [World.size_alloc] at this; exact blk_alloc this
  have hn0 : W0.heap[B + 1 + 1]? = some (.cells #[.pointer q] 23 (0, 0)) := by
    subst hW0 hB; have := heap_alloc_new ((w.alloc (.cells #[.int .i64 most] 3)).alloc (.cells #[.slice none 0 0] 22)) (.cells #[.pointer q] 23); rw [World.size_alloc, World.size_alloc] at this; exact this
  have hbel : Below B w W0 := by
    subst hW0 hB; exact (((Below.refl _ w).alloc (Nat.le_refl _) _).alloc (by simp) _).alloc (by simp; omega) _
  have hs0 : B + 3 = W0.heap.size := by subst hW0 hB; simp
  have hf0 : Fr (fun _ => False) w W0 := by subst hW0; exact (((Fr.refl _ w).alloc _).alloc _).alloc _
  have hst := hit W0 hf0 hn0 hl0
  rw [hW0]
  have HB := Lib.hid hB
  have HS := Lib.hid hs0
  clear hW0 hB hf0 hit hs0
  refine range_O hro (by omega) (gf := 60) (bd := #[]) (lb := #[.pointer (some ⟨B + 1 + 1, 0, none⟩)]) rfl h60 (enters_of Try.func60 (by kernel_rfl) rfl)
    hst KpL.t (fun W l o o' hl hk ho => kpl_b (by have := HS.out; omega) W l o o' hl hk ho) (Below.refl _ _) (fun _ => rfl)
    (fun pre W => (∃ v, W.heap[B + 1]? = some (.cells #[v] 22 (0, 0)) ∧ Sl W 26 1 v pre.length (u64s pre) ∧ (∀ k, v.ownBlock = some k → B + 3 ≤ k)) ∧ W.heap[B]? = some (.cells #[.int .i64 most] 3 (0, 0)) ∧ Below B w W ∧ B + 3 ≤ W.heap.size ∧ ¬ (1 ≤ most ∧ most ≤ pre.length))
    (fun c pre W => c = .exit 0 ∧ (∃ v, W.heap[B + 1]? = some (.cells #[v] 22 (0, 0)) ∧ Sl W 26 1 v pre.length (u64s pre) ∧ (∀ k, v.ownBlock = some k → B + 3 ≤ k)) ∧ Below B w W ∧ 1 ≤ most ∧ most = pre.length)
    ?hI ?hIx ?h0
    (fun x => { tmps := #[.pointer q, .int .i64 most, undef, .pointer (some ⟨B, 0, none⟩), .slice none 0 0, .pointer (some ⟨B + 1, 0, none⟩), .func (.func 60) #[] #[.pointer (some ⟨B + 1 + 1, 0, none⟩)], .int .u64 x, .pointer q, .func (.func 60) #[] #[.pointer (some ⟨B + 1 + 1, 0, none⟩)], .func (.func 60) #[] #[.pointer (some ⟨B + 1 + 1, 0, none⟩)], .bool false, .func (.func 60) #[] #[.pointer (some ⟨B + 1 + 1, 0, none⟩)], .int .u64 x, undef, undef, undef, undef, undef, undef, undef, undef, undef, undef, undef, undef, undef, undef], defers := [] }) ?assign ?body ?done ?stop
  case hI =>
    rintro s W W' row ⟨⟨v, h1, h2, h3⟩, h4, h5, h6, h7⟩ hg hr
    have hr' := fun r e => (hr r e).2
    exact ⟨⟨v, own_blk h1 hg hr', own_sl h2 hg hr', h3⟩, own_blk h4 hg hr', h5.grown hg (by omega) (fun k e => by have := (hr k e).1; have := HS.out; omega), Nat.le_trans h6 hg.size, h7⟩
  case hIx =>
    rintro c s W W' row ⟨h0, ⟨v, h1, h2, h3⟩, h5, h7⟩ hg hr
    have hr' := fun r e => (hr r e).2
    exact ⟨h0, ⟨v, own_blk h1 hg hr', own_sl h2 hg hr', h3⟩, h5.grown hg (by have := h5.size; have := HB.out; omega) (fun k e => by have := (hr k e).1; have := HS.out; omega), h7⟩
  case h0 => exact ⟨⟨_, hl0, Sl.nil _ _ _, by simp [Value.ownBlock]⟩, hm0, hbel, by have := HS.out; omega, by simp; omega⟩
  case assign =>
    intro l x W K hK
    gi_wp2
    exact hK
  case body =>
    clear hm0 hl0 hn0 hbel hst
    rintro l pre x W ⟨⟨v, h1, h2, h3⟩, h4, h5, h6, h7⟩ hpx
    have hlt : pre.length < ms.length := by
      obtain ⟨t, rfl⟩ := hpx
      simp
    have h64 : pre.length + 1 ≤ 64 := by omega
    obtain ⟨aov, capv, rfl, hcv, hmv⟩ := h2.shape
    have cl := blk_cell h1 0
    have cm := blk_cell h4 0
    simp at cl cm
    have hsz := HS.out
    have hfr : Fr (fun k => k = B + 1 ∨ (Value.slice aov pre.length capv).ownBlock = some k) W (W.alloc (.cells #[.int .u64 x] 26)) := (Fr.refl _ _).alloc _
    have hother : KeepsOthers W (W.alloc (.cells #[.int .u64 x] 26)) := KeepsOthers.alloc _ _
    have hdis := h2.ne h1 (by decide)
    gi_wp2_with (gi_at_builtin; refine wpListIn_append_sl rfl (.tmp 14) (.tmp 16) 22 rfl 26 i0 (.int .u64 0) 1 8 Try.underlying22 hinf hz0 hz1 hz2 rfl (by decide) _ pre.length (u64s pre) rfl (h2.alloc _) ⟨W.heap.size, 0, none⟩ 1 1 [.int .u64 x] rfl rfl (cell_one_new _ _ _) (by simp [Value.oneCell']) (by unfold maxLen; omega) (by omega) ?nx)
    case nx =>
    intro v' w1 hs1 hf1 hv1
    obtain ⟨aov', capv', rfl, hcv', hmv'⟩ := hs1.shape
    have h1' := hf1.at (blk_alloc (o' := .cells #[.int .u64 x] 26) h1) (fun e => hdis _ e rfl)
    have h4' := hf1.at (blk_alloc (o' := .cells #[.int .u64 x] 26) h4) (fun e => by have := h3 _ e; omega)
    have hfr1 := hfr.trans (hf1.mono fun k hk => Or.inr hk)
    clear cl cm hfr hother hf1
    have cl := blk_cell h1' 0
    have fl := blk_free h1' 0
    have cm := blk_cell h4' 0
    simp at cl cm
    have hs2 := hs1.set_other (a := ⟨B + 1, 0, none⟩) (.slice aov' (pre.length + 1) capv') (hs1.ne h1' (by decide))
    have h1'' := blk_set h1' 0 (.slice aov' (pre.length + 1) capv')
    have h4'' := (blk_set_other (w := w1) (b := B) (a := ⟨B + 1, 0, none⟩) (.slice aov' (pre.length + 1) capv') (by simp)).trans h4'
    have hfr2 := hfr1.setCell (p := ⟨B + 1, 0, none⟩) (Or.inl (Or.inl rfl)) (.slice aov' (pre.length + 1) capv')
    have hown : ∀ k, (Value.slice aov' (pre.length + 1) capv').ownBlock = some k → (Value.slice aov pre.length capv).ownBlock = some k ∨ W.heap.size ≤ k := by
      intro k hk
      rcases hv1 with h | h
      · exact .inl (h ▸ hk)
      · rw [h] at hk; simp at hk; exact .inr (by omega)
    have HB2 := Lib.hid (hfr2.below (B := B) (by omega) (fun k hk => by rcases hk with rfl | hk; omega; have := h3 k hk; omega))
    have HO := Lib.hid (hfr2.others (fun k hk _ => by
      rcases hk with rfl | hk
      · exact ⟨_, _, _, h1⟩
      · obtain ⟨c, hc⟩ := h2.cells k hk; exact ⟨c, _, _, hc⟩))
    have HK : Hid (KpL (B + 1) W (w1.setCell ⟨B + 1, 0, none⟩ (.slice aov' (pre.length + 1) capv'))) := by
      refine ⟨hfr2.size, fun k c t fr hk hne hr => hfr2.block k (blk_lt hk) ?_, fun k hk => ?_⟩
      · rintro (h | h)
        · exact hne h
        · exact hr ((rowOf_at h1).trans h)
      · rw [rowOf_at h1'' ] at hk
        rw [rowOf_at h1]
        exact hown k hk
    have HI : Hid ((∃ v, (w1.setCell ⟨B + 1, 0, none⟩ (.slice aov' (pre.length + 1) capv')).heap[B + 1]? = some (.cells #[v] 22 (0, 0)) ∧ Sl (w1.setCell ⟨B + 1, 0, none⟩ (.slice aov' (pre.length + 1) capv')) 26 1 v (pre ++ [x]).length (u64s (pre ++ [x])) ∧ (∀ k, v.ownBlock = some k → B + 3 ≤ k))) :=
      ⟨_, h1'', by simpa [u64s] using hs2, fun k hk => by rcases hown k hk with h | h; exact h3 k h; omega⟩
    have H4 := Lib.hid h4''
    clear hs1 hs2 h1'' h4'' hfr2 hfr1 h1' h4' hv1
    by_cases hmost : most = (pre.length : Int) + 1
    · have ht : ((pre.length : Int) + 1 == most) = true := by simp; omega
      gi_wp2_with fail
      exact ⟨HO.out.from _, rfl, HI.out, h5.trans HB2.out, by omega, by simp; omega⟩
    · have ht : ((pre.length : Int) + 1 == most) = false := by simp; omega
      gi_wp2_with fail
      exact ⟨HO.out.from _, HK.out, HI.out, H4.out, h5.trans HB2.out, Nat.le_trans h6 HO.out.size, by simp; omega⟩
  case done =>
    rintro D W hD ⟨⟨v, h1, h2, h3⟩, h4, h5, h6, h7⟩ hK
    have cl := blk_cell h1 0
    simp at cl
    have hsz := HS.out
    have HC := Lib.hid (show cutTo most ms = ms by unfold cutTo; rw [if_neg h7])
    clear hm0 hl0 hn0 hbel hst h4 h7
    obtain ⟨aov, capv, rfl, hcv, hmv⟩ := h2.shape
    gi_wp2
    refine ⟨by simp, .inl ⟨_, _, rfl, run_takeDeferred hK, ?_⟩⟩
    refine ⟨_, results_tmp rfl _ _ _, _, rfl, ?_, fun k hk => ?_, ?_⟩
    · rw [HC.out]
      exact own_sl h2 (grownBy_putObj' W D _) (fun r e => by cases e; exact ⟨_, hK, rfl⟩)
    · have := h3 k hk; have := HB.out; omega
    · rw [HB.out]
      exact h5.grown (grownBy_putObj' W D _) (by omega) (fun k e => by cases e; omega)
  case stop =>
    rintro D c pre W hD hpre ⟨rfl, ⟨v, h1, h2, h3⟩, h5, h6, h7⟩ hK
    have cl := blk_cell h1 0
    simp at cl
    have hsz := HS.out
    have HC := Lib.hid (show cutTo most ms = pre by
      obtain ⟨t, rfl⟩ := hpre
      unfold cutTo
      rw [if_pos ⟨h6, by simp; omega⟩, h7]
      simp)
    clear hm0 hl0 hn0 hbel hst h7
    obtain ⟨aov, capv, rfl, hcv, hmv⟩ := h2.shape
    gi_wp2
    refine ⟨by simp, .inl ⟨_, _, rfl, run_takeDeferred hK, ?_⟩⟩
    refine ⟨_, results_tmp rfl _ _ _, _, rfl, ?_, fun k hk => ?_, ?_⟩
    · rw [HC.out]
      exact own_sl h2 (grownBy_putObj' W D _) (fun r e => by cases e; exact ⟨_, hK, rfl⟩)
    · have := h3 k hk; have := HB.out; omega
    · rw [HB.out]
      exact h5.grown (grownBy_putObj' W D _) (by have := h5.size; have := HB.out; omega) (fun k e => by cases e; omega)

theorem all_any (p : Nat) (mv : Value) (X : Bx) (most : Int) (w : World) (h : Mb w p mv X) (hl : X.ns.length ≤ 64) :
    Calls Try.prog 16 #[.pointer (some ⟨p, 0, none⟩), .int .i64 most] w fun e w' => ∃ v, e = .returned v ∧ Sl w' 26 1 v (cutTo most X.words).length (u64s (cutTo most X.words)) ∧ (∀ k, v.ownBlock = some k → w.heap.size ≤ k) ∧ Below w.heap.size w w' :=
  callsIn_wide.1 (all_gen Fence.wide (fun _ => trivial) rfl 0 (some ⟨p, 0, none⟩) X.words (by unfold Bx.words; simpa using hl) most w fun W0 hf hn hb => by
    have h0 := (h.keep hf (fun _ _ h => h)).dl
    refine all60_seq Fence.wide (Lib.hid rfl) (fun _ => trivial) rfl _ p X.ns h0.nd _ _ _ W0 hn h0.nv (by unfold rowOf; rw [blk_cell hb]; simp [Value.ownBlock]) (blk_lt hb) ?_
    rintro (e | hm)
    · rw [e] at hb
      rw [h0.blk] at hb
      simp at hb
    · obtain ⟨i, x, hi⟩ := mem_at hm
      rw [h0.nodes i _ x hi] at hb
      simp at hb)

set_option maxRecDepth 100000 in
theorem nil_seq (F : Fence) (h60 : F.fn 60) (hro : F.round = none) (n Bn Bl B0 : Nat) (w : World)
    (hBn : w.heap[Bn]? = some (.cells #[.pointer none] 23 (0, 0))) :
    SeqO F n Try.prog 60 #[] #[.pointer (some ⟨Bn, 0, none⟩)] (fun x : Int => #[Value.int .u64 x]) (KpL Bl) [] B0 w := fun l J Jx W hW _ hJ _ _ h0 => by
  have cn := blk_cell (blk_alloc (o' := .cells #[.func (.yield l) #[] #[]] 89) ((hW.block Bn (blk_lt hBn)).trans hBn)) 0
  simp at cn
  refine callsIn_of_wp Try.func60 rfl h60 ?_ hro
  simp only [Try.ntmps60, List.size_toArray, List.length_cons, List.length_nil, Nat.reduceAdd, Nat.reduceSub, Array.replicate_succ, Array.replicate_zero, List.push_toArray, List.append_toArray, List.nil_append, List.cons_append]
  gi_wp2
  refine bodyPost_ret (results_none rfl _ _ _) rfl ?_
  exact ⟨⟨_, rfl⟩, .inl (hJ.alloc _ h0)⟩

theorem all_nil (most : Int) (w : World) :
    Calls Try.prog 16 #[.pointer none, .int .i64 most] w fun e w' => ∃ v, e = .returned v ∧ Sl w' 26 1 v 0 [] ∧ Below w.heap.size w w' :=
  (callsIn_wide.1 (all_gen Fence.wide (fun _ => trivial) rfl 0 none [] (by simp) most w fun W0 _ hn _ =>
    nil_seq Fence.wide trivial rfl _ _ _ _ W0 hn)).mono fun e w' ⟨v, he, hs, _, hb⟩ => ⟨v, he, by
      have : cutTo most [] = [] := by unfold cutTo; split <;> simp
      rw [this] at hs; exact hs, hb⟩

set_option maxHeartbeats 800000 in
theorem Same_yes (v1 v2 : Value) (n : Nat) (l : List Int) (w : World) (h1 : Rd w 1 v1 n (u64s l)) (h2 : Rd w 1 v2 n (u64s l)) :
    Calls Try.prog 15 #[v1, v2] w fun e w' => e = .returned (.bool true) ∧ ∃ q, w' = w.drewN q := by
  obtain ⟨ao1, cap1, rfl, hc1, hm1⟩ := h1.shape
  obtain ⟨ao2, cap2, rfl, hc2, hm2⟩ := h2.shape
  have hl : l.length = n := by have := h1.len; simpa [u64s] using this
  have HL := Lib.hid hl
  clear hl
  unfold maxLen at hm1 hm2
  go_enter Try.func15, Try.ntmps15
  go_wp2
  go_loopw [5] (fun s5 wr => ∃ k : Nat, k ≤ n ∧ s5 = .int .i64 k ∧ ∃ q, wr = w.drewN q) (fun s5 _ => n - (intOf s5).toNat)
  case atStart => exact ⟨0, by omega, rfl, 0, rfl⟩
  case round =>
    obtain ⟨k, hk, rfl, q, rfl⟩ := hrel
    by_cases hlt : k < n
    · obtain ⟨g1, o1, c1, hv1, _, _, hcell1⟩ := h1.at (by omega)
      obtain ⟨g2, o2, c2, hv2, _, _, hcell2⟩ := h2.at (by omega)
      simp at hv1 hv2
      obtain ⟨rfl, rfl⟩ := hv1
      obtain ⟨rfl, rfl⟩ := hv2
      obtain ⟨x, hx⟩ : ∃ x, l[k]? = some x := ⟨l[k]'(by have := HL.out; omega), List.getElem?_eq_getElem _⟩
      have e1 := hcell1 k (by omega)
      have e2 := hcell2 k (by omega)
      rw [u64s_at hx] at e1 e2
      clear hcell1 hcell2 hx
      go_wp2_with fail
      go_quiet (fail)
      go_wp2
      go_roundw
      case rel => exact ⟨k + 1, by omega, by go_num, _, rfl⟩
      case measure => simp [intOf]; omega
    · obtain rfl : k = n := by omega
      go_wp2
      go_ret
      exact ⟨rfl, _, rfl⟩
end Go.Proofs.Ytgijaehmffojhaa
