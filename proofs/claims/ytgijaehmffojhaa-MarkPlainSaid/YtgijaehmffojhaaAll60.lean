/- All: the words, one after another. -/
import Derived.Test.YtgijaehmffojhaaEach
namespace Go.Proofs.Ytgijaehmffojhaa
open Go.RowKit Go.Shelf
attribute [local go_sem] Oper.semAt_some

theorem roundIn_depth {F : Fence} (hw : Hid (F = Fence.wide)) {n m : Nat} {l : Nat} {f : FuncId} {tmps : Array Value} {assign body : Code} {w : World} {R : Ending → World → Prop} (h : RoundIn F n Try.prog l f tmps assign body w R) : RoundIn F m Try.prog l f tmps assign body w R :=
  ⟨h.1, fun c cs _ => h.2 c cs (by obtain rfl := hw.out; exact room_wide _)⟩

/-- What All reads: the list, and each node's word. -/
structure Nv (w : World) (p : Nat) (ns : List (Nat × Int)) : Prop where
  nx : Nx w p ns
  val : ∀ (i b : Nat) (x : Int), ns[i]? = some (b, x) → w.cell? ⟨b, 0, none⟩ = some (.int .u64 x)

theorem Dl.nv {w : World} {p : Nat} {ns : List (Nat × Int)} {r3 r4 r5 r6 r7 r8 : Value} (h : Dl w p ns r3 r4 r5 r6 r7 r8) : Nv w p ns := by
  refine ⟨h.nx, fun i b x hi => ?_⟩
  have := blk_cell (h.nodes i b x hi) 0
  simpa using this

theorem Nv.keep {w w' : World} {p : Nat} {ns : List (Nat × Int)} (h : Nv w p ns) (hk : ∀ k, k < w.heap.size → df p ns k → w'.heap[k]? = w.heap[k]?) : Nv w' p ns :=
  ⟨h.nx.keep hk, fun i b x hi => by rw [cell_same (hk b (cell_lt (h.val i b x hi)) (.inr (at_mem hi)))]; exact h.val i b x hi⟩

theorem Nv.own {w w' : World} {p : Nat} {ns : List (Nat × Int)} {row : Option Nat} (h : Nv w p ns) (hg : w.grownBy w' row) (hr : ∀ r, row = some r → ∃ o : Obj, w.heap[r]? = some o ∧ o.isCells = false) : Nv w' p ns := by
  refine ⟨h.nx.own hg hr, fun i b x hi => ?_⟩
  have hc := h.val i b x hi
  rw [cell_same (hg.block b (cell_lt hc) (fun e => ?_))]
  · exact hc
  · obtain ⟨o, ho, hn⟩ := hr b e.symm
    rw [cell_cells hc ho] at hn
    cases hn

theorem Nv.putObj {W : World} {p : Nat} {ns : List (Nat × Int)} (h : Nv W p ns) {l : Nat} {o : Obj} (o' : Obj) (hl : W.heap[l]? = some o) (ho : o.isCells = false) : Nv (W.putObj l o') p ns :=
  h.own (grownBy_putObj' W l o') (fun r e => by cases e; exact ⟨o, hl, ho⟩)

/-- What a round of a loop over the nodes must keep. -/
def KX (p : Nat) (ns : List (Nat × Int)) (W W' : World) : Prop := Nx W p ns → Nx W' p ns

set_option maxRecDepth 100000 in
set_option maxHeartbeats 3200000 in
theorem all60_seq (F : Fence) (hw : Hid (F = Fence.wide)) (hF : ∀ k, F.fn k) (hro : F.round = none) (n : Nat) (p : Nat) (ns : List (Nat × Int)) (nd : (ns.map (·.1)).Nodup) (Bc Bl B0 : Nat)
    (w : World) (hBc : w.heap[Bc]? = some (.cells #[.pointer (some ⟨p, 0, none⟩)] 23 (0, 0))) (hN : Nv w p ns) (hBl : rowOf w Bl = none) (hBlt : Bl < w.heap.size) (hBd : ¬ df p ns Bl) :
    SeqO F (n + 2) Try.prog 60 #[] #[.pointer (some ⟨Bc, 0, none⟩)] (fun x : Int => #[.int .u64 x]) (KpL Bl) (ns.map (·.2)) B0 w := fun l J Jx W hb hB0 hJ hJx hY h0 => by
  have hN0 : Nv W p ns := hN.keep fun k hk _ => hb.block k hk
  have hBc0 : W.heap[Bc]? = some (.cells #[.pointer (some ⟨p, 0, none⟩)] 23 (0, 0)) := (hb.block Bc (blk_lt hBc)).trans hBc
  have ND := Lib.hid nd
  have hr0 : rowOf W Bl = none := by rw [← hBl]; unfold rowOf; rw [cell_same (hb.block Bl hBlt)]
  have hBW : Bl < W.heap.size := Nat.lt_of_lt_of_le hBlt hb.size
  have hdf : ∀ k, df p ns k → k < W.heap.size := fun k hk => by
    rcases hk with e | hk
    · rw [e]; exact cell_lt hN0.nx.head
    · obtain ⟨i, x, hi⟩ := mem_at hk
      exact cell_lt (hN0.nx.next i k x hi)
  clear hN hb hBc nd hBl hBlt w
  have hmx : Try.prog.follows .mixedOrders = true := by kernel_rfl
  obtain ⟨Y, hYs⟩ : ∃ Y, W.heap.size = Y := ⟨_, rfl⟩
  obtain ⟨W1, hW1⟩ : ∃ W1, W.alloc (.cells #[.func (.yield l) #[] #[]] 89) = W1 := ⟨_, rfl⟩
  have hy1 : W1.heap[Y]? = some (.cells #[.func (.yield l) #[] #[]] 89 (0, 0)) := by subst hW1 hYs; exact heap_alloc_new W _
  have hN1 : Nv W1 p ns := by subst hW1; exact hN0.keep fun k hk _ => Below.heap_alloc _ _ _ hk
  have hb1 : W1.heap[Bc]? = some (.cells #[.pointer (some ⟨p, 0, none⟩)] 23 (0, 0)) := by subst hW1; exact blk_alloc hBc0
  have hJ1 : J [] W1 := by subst hW1; exact hJ.alloc _ h0
  have hs1 : W1.heap.size = Y + 1 := by subst hW1; simp [hYs]
  have cb := blk_cell hb1 0
  simp at cb
  have hr1 : rowOf W1 Bl = none := by rw [← hr0]; unfold rowOf; subst hW1; rw [cell_same (Below.heap_alloc _ _ _ hBW)]
  rw [hYs] at hdf hBW
  clear hN0 hBc0 h0 hr0
  have hC0 := hb1
  refine callsIn_of_wp_marks Try.func60 rfl (hF 60) ?_ hro
  simp only [Try.ntmps60, List.size_toArray, List.length_cons, List.length_nil, Nat.reduceAdd, Nat.reduceSub, Array.replicate_succ, Array.replicate_zero, List.push_toArray, List.append_toArray, List.nil_append, List.cons_append]
  gi_wp2_with fail
  have hKT : ∀ {A B C : World}, KX p ns A B → KX p ns B C → KX p ns A C := fun h k x => k (h x)
  refine range_O hro (by omega) (gf := 54) (bd := #[.pointer (some ⟨p, 0, none⟩)]) (lb := #[]) rfl (hF 54) (enters_of Try.func54 (by kernel_rfl) rfl)
    (encs := fun m : Nat × Int => #[.pointer (some ⟨m.1, 0, none⟩)]) (Kp := KX p ns) (full := ns) (w0 := W1) (each_seq F hw (hF 54) hro _ p ns ND.out (KX p ns) (fun _ _ h => h) _ W1 hN1.nx)
    (fun h k => hKT h k) (fun W l o o' _ hl ho h => h.own (grownBy_putObj' W l o') (fun r e => by cases e; exact ⟨o, hl, ho⟩)) (Below.refl _ _) (fun _ => rfl)
    (fun pre V => J (pre.map (·.2)) V ∧ Nv V p ns ∧ V.heap[Y]? = some (.cells #[.func (.yield l) #[] #[]] 89 (0, 0)) ∧ Y + 1 ≤ V.heap.size ∧ ∀ k, rowOf V Bl = some k → Y + 1 ≤ k)
    (fun c pre V => c = .ret ∧ Jx (pre.map (·.2)) V) ?hI ?hIx ?h0
    (fun m => { tmps := #[.func (.yield l) #[] #[], .pointer (some ⟨Bc, 0, none⟩), .pointer (some ⟨Y, 0, none⟩), .pointer (some ⟨m.1, 0, none⟩), .pointer (some ⟨p, 0, none⟩), .bool false, .pointer (some ⟨p, 0, none⟩), .pointer (some ⟨p, 0, none⟩), .pointer (some ⟨p, 0, none⟩),
      .func (.func 54) #[.pointer (some ⟨p, 0, none⟩)] #[], .pointer (some ⟨m.1, 0, none⟩), undef, undef, undef, undef, undef, undef, undef], defers := [] }) ?assign ?body ?done ?stop
  case hI =>
    rintro s A C row ⟨h1, h2, h3, h4, h5⟩ hg hr
    have hr' := fun r e => (hr r e).2
    have hrc : rowOf C Bl = rowOf A Bl := by unfold rowOf; rw [cell_same (hg.block Bl (by omega) (fun e => by have := (hr Bl e.symm).1; omega))]
    exact ⟨hJ _ A C row h1 hg (fun r e => ⟨by have := (hr r e).1; omega, (hr r e).2⟩), h2.own hg hr', own_blk h3 hg hr', Nat.le_trans h4 hg.size, by rw [hrc]; exact h5⟩
  case hIx =>
    rintro c s A C row ⟨h0, h1⟩ hg hr
    exact ⟨h0, hJx _ A C row h1 hg (fun r e => ⟨by have := (hr r e).1; omega, (hr r e).2⟩)⟩
  case h0 => exact ⟨hJ1, hN1, hy1, by omega, by rw [hr1]; simp⟩
  case assign =>
    intro l2 m V K hK
    gi_wp2
    exact hK
  case body =>
    rintro l2 pre ⟨b, x⟩ V ⟨h1, h2, h3, h4, h5⟩ hpre
    have hbx : ns[pre.length]? = some (b, x) := by
      obtain ⟨t, ht⟩ := hpre
      rw [← ht]
      simp
    have hpre2 : pre.map (·.2) ++ [x] <+: ns.map (·.2) := by
      obtain ⟨t, ht⟩ := hpre
      exact ⟨t.map (·.2), by rw [← ht]; simp⟩
    have hval : V.drew.cell? ⟨b, 0, none⟩ = some (.int .u64 x) := h2.val _ b x hbx
    have hyc : V.drew.cell? ⟨Y, 0, none⟩ = some (.func (.yield l) #[] #[]) := by
      have := blk_cell (w := V.drew) h3 0
      simpa using this
    have hJd : J (pre.map (·.2)) V.drew := hJ _ V V.drew none h1 ⟨rfl, rfl, rfl, Nat.le_refl _, fun _ _ _ => rfl⟩ (fun r e => by cases e)
    have hNd : Nv V.drew p ns := h2.keep (fun _ _ _ => rfl)
    have h3d : V.drew.heap[Y]? = some (.cells #[.func (.yield l) #[] #[]] 89 (0, 0)) := h3
    have hko : KeepsFrom (Y + 1) V V.drew := ⟨Nat.le_refl _, fun _ _ _ h _ => h⟩
    have h4d : Y + 1 ≤ V.drew.heap.size := h4
    have h5d : ∀ k, rowOf V.drew Bl = some k → Y + 1 ≤ k := h5
    obtain ⟨fn, tmps, assign, body, hy, hR0⟩ := hY (pre.map (·.2)) x V.drew hJd hpre2
    have hR := roundIn_depth (m := n + 2 - 1 - 1 - 1) hw hR0
    clear hY hR0 hJd hpre hbx
    gi_wp2_with fail
    gi_region_with_o (refine ⟨depth_ok hw, hR.mono ?_⟩; rintro e W3 ⟨hk3, h⟩; obtain ⟨bb, rfl, h'⟩ : ∃ bb : Bool, e = .returned (.bool bb) ∧ ((bb = true ∧ J (pre.map (·.2) ++ [x]) W3 ∧ KpL Bl V.drew W3) ∨ (bb = false ∧ Jx (pre.map (·.2) ++ [x]) W3)) := (by rcases h with ⟨h, h'⟩ | ⟨h, h'⟩; exact ⟨true, h, .inl ⟨rfl, h'⟩⟩; exact ⟨false, h, .inr ⟨rfl, h'⟩⟩); clear h hR hy hval hyc)
    all_goals
      have hkf : KeepsFrom W1.heap.size V W3 := ⟨hk3.size, fun k o hk1 hk2 ho => hk3.same k o (by omega) hk2 ho⟩
      rcases h' with ⟨rfl, hJ3, hkv3⟩ | ⟨rfl, hJx3⟩
      · have hkeep : ∀ k c t fr, V.drew.heap[k]? = some (.cells c t fr) → k < Y + 1 → k ≠ Bl → W3.heap[k]? = V.drew.heap[k]? := fun k c t fr h1 h2 h3 => hkv3.same k c t fr h1 h3 (fun e => by have := h5d k e; omega)
        have hN3 : Nv W3 p ns := hNd.keep fun k hk hd => by
          have hlt := hdf k hd
          have hne : k ≠ Bl := fun e => hBd (e ▸ hd)
          obtain ⟨o, ho⟩ : ∃ o, V.drew.heap[k]? = some o := ⟨_, Array.getElem?_eq_getElem hk⟩
          have hcl : o.isCells = true := by
            rcases hd with e | hm
            · subst e; exact cell_cells hNd.nx.head ho
            · obtain ⟨i, y, hi⟩ := mem_at hm
              exact cell_cells (hNd.nx.next i k y hi) ho
          cases o with
          | cells c t fr => exact hkeep k c t fr ho (by omega) hne
          | _ => cases hcl
        have h33 : W3.heap[Y]? = some (.cells #[.func (.yield l) #[] #[]] 89 (0, 0)) := by rw [hkeep Y _ _ _ h3d (by omega) (by omega)]; exact h3d
        have h53 : ∀ k, rowOf W3 Bl = some k → Y + 1 ≤ k := fun k hk => by
          rcases hkv3.row k hk with h | h
          · exact h5d k h
          · omega
        gi_wp2_with fail
        exact ⟨hkf, fun _ => hN3.nx, by rw [List.map_append]; exact hJ3, hN3, h33, Nat.le_trans h4d hk3.size, h53⟩
      · gi_wp2_with fail
        exact ⟨hkf, rfl, by rw [List.map_append]; exact hJx3⟩
  case done =>
    rintro D V hD ⟨h1, h2, h3, h4, h5⟩ hK
    gi_wp2
    refine ⟨by simp, .inl ⟨_, _, rfl, run_takeDeferred hK, ?_⟩⟩
    exact ⟨_, results_none rfl _ _ _, ⟨_, rfl⟩, .inl (hJ.putObj _ h1 (by omega) hK rfl)⟩
  case stop =>
    rintro D c pre V hD hpre ⟨rfl, h1⟩ hK
    gi_wp2
    refine ⟨by simp, .inl ⟨_, _, rfl, run_takeDeferred hK, ?_⟩⟩
    refine ⟨_, results_none rfl _ _ _, ⟨_, rfl⟩, .inr ⟨pre.map (·.2), ?_, hJx.putObj _ h1 (by omega) hK rfl⟩⟩
    obtain ⟨t, ht⟩ := hpre
    exact ⟨t.map (·.2), by rw [← ht]; simp⟩
end Go.Proofs.Ytgijaehmffojhaa
