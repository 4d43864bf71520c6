/- 'whole': the law's loop over the table's atoms, both tables alike. -/
import Derived.Test.YtflbcijmfcmilaaDoorRoundQ
import Derived.StillTailTactics
namespace Go.Proofs.YtflbcijmfcmilaaDoor
open Go.RowKit Go.Shelf
attribute [local go_sem] Oper.semAt_some

/-- One result that lies in a cell. -/
theorem results_cell1 {fn : Func} {p : Nat} (h : fn.results = #[.cell p 4]) (tmps : Array Value) (w : World) (b : Nat) (x : Bool) (hp : tmps.getD p undef = .pointer (some ⟨b, 0, none⟩)) (hc : w.cell? ⟨b, 0, none⟩ = some (.bool x)) :
    (results fn tmps).run Tryd.prog w = .ok (.bool x) w := by
  have hp' : tmps[p]?.getD undef = .pointer (some ⟨b, 0, none⟩) := by simpa using hp
  simp [results, h, hp', asAddr, go_sem, hc]

set_option maxRecDepth 100000 in
set_option maxHeartbeats 3200000 in
theorem whole_gen (n : Nat) (q : Option Addr) (C : World → Prop) (pb : Nat) (vr : Value) (ms : List ByteArray) (hms : ms.length ≤ 1000000) (w : World)
    (hC : ∀ W, Fr (fun _ => False) w W → C W) (hlen : ∀ W, C W → Calls Tryd.prog 27 #[.pointer q] W fun e w' => e = .returned (.int .i64 ms.length) ∧ w' = W)
    (hpb : w.heap[pb]? = some (.cells #[vr] 48 (0, 0))) (hs : Sl w 9 1 vr ms.length (strs ms))
    (hst : ∀ W0, Fr (fun _ => False) w W0 → W0.heap[w.heap.size + 3]? = some (.cells #[.pointer q] 37 (0, 0)) → W0.heap[w.heap.size + 2]? = some (.cells #[.int .i64 0] 3 (0, 0)) →
      SeqO Fence.wide (n + 2) Tryd.prog 64 #[] #[.pointer (some ⟨w.heap.size + 3, 0, none⟩)] (fun x : ByteArray => #[Value.string x]) (KpL (w.heap.size + 2)) ms (W0.heap.size + 2) W0) :
    CallsIn Fence.wide (n + 3) Tryd.prog 30 #[.pointer q, .pointer (some ⟨pb, 0, none⟩)] w fun e w' => e = .returned (.bool true) ∧ Below w.heap.size w w' := by
  have hseq := seq_not_nil
  have h64 : Fence.wide.fn 64 := trivial
  have h52 : Fence.wide.fn 52 := trivial
  obtain ⟨B, hB⟩ : ∃ B, w.heap.size = B := ⟨_, rfl⟩
  simp only [hB] at hst ⊢
  obtain ⟨W1, hW1⟩ : ∃ W1, (w.alloc (.cells #[.pointer (some ⟨pb, 0, none⟩)] 45)).alloc (.cells #[.bool false] 4) = W1 := ⟨_, rfl⟩
  have hr1 : W1.heap[B]? = some (.cells #[.pointer (some ⟨pb, 0, none⟩)] 45 (0, 0)) := by
    subst hW1 hB; exact blk_alloc (heap_alloc_new w _)
  have hf1 : Fr (fun _ => False) w W1 := by subst hW1; exact ((Fr.refl _ w).alloc _).alloc _
  have hp1 : W1.heap[pb]? = some (.cells #[vr] 48 (0, 0)) := hf1.at hpb (fun h => h)
  have hsz1 : W1.heap.size = B + 2 := by subst hW1 hB; simp
  have hres1 : W1.heap[B + 1]? = some (.cells #[.bool false] 4 (0, 0)) := by
    subst hW1 hB; have := heap_alloc_new (w.alloc (.cells #[.pointer (some ⟨pb, 0, none⟩)] 45)) (.cells #[.bool false] 4); rw [World.size_alloc] at this; exact this
  obtain ⟨aor, capr, rfl, hcr, hmr⟩ := hs.shape
  have cr := blk_cell hr1 0
  have cp := blk_cell hp1 0
  simp at cr cp
  have HLEN : Hid (∀ k, Calls Tryd.prog 27 #[.pointer q] (W1.drewN k) fun e w' => e = .returned (.int .i64 ms.length) ∧ w' = W1.drewN k) := Lib.hid fun k => hlen _ (hC _ (hf1.drewN k))
  have HST := Lib.hid hst
  have HB := Lib.hid hB
  have HS := Lib.hid (hs.keep (fun k hk => hf1.block k (hs.lt k hk) (fun h => h)))
  have HF1 := Lib.hid hf1
  clear hst hs hC hlen hf1 hpb
  refine callsIn_of_wp_marks Tryd.func30 rfl trivial ?_ rfl
  simp only [Tryd.ntmps30, List.size_toArray, List.length_cons, List.length_nil, Nat.reduceAdd, Nat.reduceSub, Array.replicate_succ, Array.replicate_zero, List.push_toArray, List.append_toArray, List.nil_append, List.cons_append]
  gi_wp2_with fail
  clear hB
  refine wpIn_region_quiet_lit rfl (by kernel_rfl) (by kernel_rfl) ?_
  quiet_step_in (fail)
  refine wpQuietIn_step (by simp [Oper.askedIn, Oper.about]; intro _ _ _; trivial) (fun K hK => ?_)
  go_simp
  apply Exists.intro
  refine ⟨fun _ => CallsIn.quiet_of_same (callsIn_of (Lib.hid rfl) (HLEN.out _)), hK _ ?_⟩
  clear hK K
  quiet_step_in (fail)
  quiet_step_in (fail)
  quiet_step_in (fail)
  quiet_step_in (fail)
  quiet_step_in (fail)
  quiet_step_in (fail)
  refine wpQuietIn_nil ?_
  rintro _ ⟨nq, rfl⟩
  gi_wp2_with (gi_at_call 52; go_loud (refine (callsIn_of (Lib.hid rfl) (All_any q _)).mono ?_; rintro e W0 ⟨rfl, rfl⟩))
  have FRT : ∀ W, W1.drewN nq = W → Fr (fun _ => False) W1 W := fun W h => by subst h; exact (Fr.refl _ W1).drewN nq
  have hsd : (W1.drewN nq).heap.size = B + 2 := hsz1
  generalize W1.drewN nq = Wd at FRT hsd ⊢
  have hfd := FRT _ rfl
  clear FRT
  obtain ⟨W2, hW2⟩ : ∃ W2, (Wd.alloc (.cells #[.int .i64 0] 3)).alloc (.cells #[.pointer q] 37) = W2 := ⟨_, rfl⟩
  have hk2 : W2.heap[B + 2]? = some (.cells #[.int .i64 0] 3 (0, 0)) := by
    rw [← hW2, ← hsd]; exact blk_alloc (heap_alloc_new Wd _)
  have hn2 : W2.heap[B + 3]? = some (.cells #[.pointer q] 37 (0, 0)) := by
    have := heap_alloc_new (Wd.alloc (.cells #[.int .i64 0] 3)) (.cells #[.pointer q] 37)
    rw [World.size_alloc, hsd, hW2] at this
    exact this
  have hz2 : W2.heap.size = B + 4 := by rw [← hW2]; simp [hsd]
  have hf12 : Fr (fun _ => False) W1 W2 := by rw [← hW2]; exact (hfd.alloc _).alloc _
  have hf2 := HF1.out.trans hf12
  have hr2 := hf12.at hr1 (fun h => h)
  have hp2 := hf12.at hp1 (fun h => h)
  have hres2 := hf12.at hres1 (fun h => h)
  have hs2 := HS.out.keep (fun k hk => hf12.block k (HS.out.lt k hk) (fun h => h))
  have hst := HST.out W2 hf2 hn2 hk2
  have hbel : Below B w W2 := hf2.below (B := B) (by have := HB.out; omega) (fun k hk => hk.elim)
  rw [hW2]
  clear hfd hf12 hr1 hp1 hres1 hsz1 hsd cr cp HLEN HST HS HF1 hf2 hW1 hW2 hn2
  refine range_O rfl (by omega) (gf := 64) (bd := #[]) (lb := #[.pointer (some ⟨B + 3, 0, none⟩)]) rfl h64 (enters_of Tryd.func64 (by kernel_rfl) rfl)
    hst KpL.t (fun W l o o' hl hk ho => kpl_b (by omega) W l o o' hl hk ho) (Below.refl _ _) (fun _ => rfl)
    (fun pre W => W.heap[B + 2]? = some (.cells #[.int .i64 pre.length] 3 (0, 0)) ∧ W.heap[B]? = some (.cells #[.pointer (some ⟨pb, 0, none⟩)] 45 (0, 0)) ∧ W.heap[pb]? = some (.cells #[.slice aor ms.length capr] 48 (0, 0)) ∧ W.heap[B + 1]? = some (.cells #[.bool false] 4 (0, 0)) ∧
      Sl W 9 1 (.slice aor ms.length capr) ms.length (strs ms) ∧ B + 4 ≤ W.heap.size ∧ Below B w W)
    (fun _ _ _ => False)
    ?hI ?hIx ?h0
    (fun x => { tmps := #[.pointer q, .pointer (some ⟨pb, 0, none⟩), undef, .pointer (some ⟨B, 0, none⟩), .pointer (some ⟨B + 1, 0, none⟩), .pointer (some ⟨B + 2, 0, none⟩), .func (.func 64) #[] #[.pointer (some ⟨B + 3, 0, none⟩)], .string x, .pointer q, .int .i64 ms.length, .pointer (some ⟨pb, 0, none⟩), .pointer (some ⟨pb, 0, none⟩), .pointer (some ⟨pb, 0, none⟩), .slice aor ms.length capr, .int .i64 ms.length, .bool false, .pointer q, .func (.func 64) #[] #[.pointer (some ⟨B + 3, 0, none⟩)], .func (.func 64) #[] #[.pointer (some ⟨B + 3, 0, none⟩)], .bool false, undef, undef, undef, undef, undef, undef, .func (.func 64) #[] #[.pointer (some ⟨B + 3, 0, none⟩)], .string x, undef, undef, undef, undef, undef, undef, undef, undef, undef, undef, undef, undef, undef, undef, undef, undef, undef, undef, undef, undef, undef, undef, undef, undef, undef, undef, undef], defers := [] }) ?assign ?body ?done ?stop
  case hI =>
    rintro s W W' row ⟨h1, h2, h3, h4, h5, h6, h7⟩ hg hr
    have hr' := fun r e => (hr r e).2
    exact ⟨own_blk h1 hg hr', own_blk h2 hg hr', own_blk h3 hg hr', own_blk h4 hg hr', own_sl h5 hg hr', Nat.le_trans h6 hg.size, h7.grown hg (by have := HB.out; omega) (fun k e => by have := (hr k e).1; omega)⟩
  case hIx =>
    rintro c s W W' row h hg hr
    exact h
  case h0 => exact ⟨hk2, hr2, hp2, hres2, hs2, by omega, hbel⟩
  case assign =>
    intro l x W K hK
    gi_wp2
    exact hK
  case body =>
    clear hk2 hr2 hp2 hres2 hs2 hbel hst
    rintro l pre x W ⟨h1, h2, h3, h4, h5, h6, h7⟩ hpx
    have hlt : pre.length < ms.length := by
      obtain ⟨t, rfl⟩ := hpx
      simp
    have hx : ms[pre.length]? = some x := by
      obtain ⟨t, rfl⟩ := hpx
      simp
    obtain ⟨g, off, cap, cur, hv, _, _, hg, _, _⟩ := h5.blk (by omega)
    simp at hv
    obtain ⟨rfl, rfl⟩ := hv
    have c1 := blk_cell h1 0
    have c2 := blk_cell h2 0
    have c3 := blk_cell h3 0
    have c5 := h5.cell pre.length (by omega)
    rw [strs_at hx] at c5
    simp at c1 c2 c3 c5
    have d1 : W.drew.cell? ⟨B + 2, 0, none⟩ = some (.int .i64 pre.length) := c1
    have d2 : W.drew.cell? ⟨B, 0, none⟩ = some (.pointer (some ⟨pb, 0, none⟩)) := c2
    have d3 : W.drew.cell? ⟨pb, 0, none⟩ = some (.slice (some ⟨g, off, none⟩) ms.length capr) := c3
    have d5 : W.drew.cell? ⟨g, off + pre.length, none⟩ = some (.string x) := c5
    have hpm : decide (ms.length ≤ pre.length) = false := by simp; omega
    have f1 := blk_free h1 0
    clear hg hx hpx
    gi_wp2_with fail
    refine region_quiet_round (F := Fence.wide) rfl (by kernel_rfl) (by kernel_rfl) (by kernel_rfl) ?_
    repeat (quiet_step_in (fail))
    refine wpQuietIn_nil ?_
    rintro _ ⟨nq2, rfl⟩
    gi_wp2_with fail
    have hfd := (Fr.refl (fun k => k = B + 2) W).drewN nq2
    have h1d := ((Fr.refl (fun _ => False) W).drewN nq2).at h1 (fun h => h)
    have hfr := hfd.setCell (p := ⟨B + 2, 0, none⟩) (Or.inl rfl) (.int .i64 ((pre.length : Int) + 1))
    have h1s := blk_set h1d 0 (.int .i64 ((pre.length : Int) + 1))
    generalize (W.drewN nq2).setCell ⟨B + 2, 0, none⟩ (.int .i64 ((pre.length : Int) + 1)) = V3 at hfr h1s ⊢
    have HO := hfr.others (fun k hk _ => by subst hk; exact ⟨_, _, _, h1⟩)
    refine ⟨HO.from _, ⟨hfr.size, fun k c t fr hk hne hr => hfr.block k (blk_lt hk) hne, fun k hk => ?_⟩, ?_, hfr.at h2 (by omega), hfr.at h3 ?_, hfr.at h4 (by omega), h5.keep (fun k hk => hfr.block k (h5.lt k hk) ?_), Nat.le_trans h6 hfr.size, h7.trans (hfr.below (B := B) (by omega) (fun k hk => by omega))⟩
    · rw [rowOf_at h1s] at hk; simp [Value.ownBlock] at hk
    · rw [h1s]; simp
    · rintro rfl; rw [h1] at h3; simp at h3
    · exact h5.ne h1 (by decide) k hk
  case done =>
    rintro D W hD ⟨h1, h2, h3, h4, h5, h6, h7⟩ hK
    have c1 := blk_cell h1 0
    have c2 := blk_cell h2 0
    have c3 := blk_cell h3 0
    have c4 := blk_cell h4 0
    have f4 := blk_free h4 0
    simp at c1 c2 c3 c4
    have d1 : W.drew.cell? ⟨B + 2, 0, none⟩ = some (.int .i64 ms.length) := c1
    have d2 : W.drew.cell? ⟨B, 0, none⟩ = some (.pointer (some ⟨pb, 0, none⟩)) := c2
    have d3 : W.drew.cell? ⟨pb, 0, none⟩ = some (.slice aor ms.length capr) := c3
    have g4 : W.drew.frozen? ⟨B + 1, 0, none⟩ = false := f4
    clear hst hk2 hr2 hp2 hres2 hs2 hbel
    gi_wp2_with fail
    refine wpIn_wide.2 ?_
    go_still_tail 7, (by kernel_rfl)
    change wpList _ _ _ _ _ W.drew
    have hrs := blk_set h4 0 (.bool true)
    have hfr := ((Fr.refl (fun k => k = B + 1) W).setCell (p := ⟨B + 1, 0, none⟩) (Or.inl rfl) (.bool true)).drew
    go_wp2_with fail
    have hK3 : (W.setCell ⟨B + 1, 0, none⟩ (.bool true)).drew.heap[D]? = some (.deferred (some [])) :=
      (blk_set_other (w := W) (b := D) (a := ⟨B + 1, 0, none⟩) (.bool true) (by show D ≠ B + 1; omega)).trans hK
    have hbw : Below B w (W.setCell ⟨B + 1, 0, none⟩ (.bool true)).drew := h7.trans (hfr.below (B := B) (by omega) (fun k hk => by omega))
    have hz3 := hfr.size
    have hrs3 : (W.setCell ⟨B + 1, 0, none⟩ (.bool true)).drew.heap[B + 1]? = _ := hrs
    clear hfr hrs
    generalize (W.setCell ⟨B + 1, 0, none⟩ (.bool true)).drew = V3 at hK3 hbw hrs3 hz3 ⊢
    have hc3 : V3.cell? ⟨B + 1, 0, none⟩ = some (.bool true) := (blk_cell hrs3 0).trans rfl
    gi_wp2
    refine ⟨by simp, .inl ⟨_, _, rfl, run_takeDeferred hK3, ?_⟩⟩
    refine ⟨_, results_cell1 rfl _ _ (B + 1) true rfl ?_, rfl, ?_⟩
    · exact (World.cell?_of_block (w := V3) (a := ⟨B + 1, 0, none⟩) (World.putObj_heap_other (by show B + 1 ≠ D; omega))).trans hc3
    · exact hbw.grown (grownBy_putObj' V3 D _) (by have := HB.out; omega) (fun k e => by cases e; omega)
  case stop =>
    rintro D c pre W hD hpre h hK
    exact h.elim
end Go.Proofs.YtflbcijmfcmilaaDoor
