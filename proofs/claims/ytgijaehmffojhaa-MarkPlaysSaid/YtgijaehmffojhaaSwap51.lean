/- The law's own swap: Swap of a list of its own, which is spoilt behind it. -/
import Derived.Test.YtgijaehmffojhaaSwap
import Derived.Test.YtgijaehmffojhaaTakesLaw
namespace Go.Proofs.Ytgijaehmffojhaa
open Go.RowKit

/-- What the law's own list holds while it is spoilt: i places are. -/
def spoilt (L : List Int) (i : Nat) : List Int := List.replicate i 77 ++ L.drop i ++ [4321]
theorem spoilt_length (L : List Int) (i : Nat) (h : i ≤ L.length) : (spoilt L i).length = L.length + 1 := by simp [spoilt]; omega
theorem spoilt_at (L : List Int) (i : Nat) (h : i < L.length) : (spoilt L i)[i]? = L[i]? := by
  unfold spoilt
  rw [List.append_assoc, List.getElem?_append_right (by simp), List.length_replicate, Nat.sub_self, List.getElem?_append_left (by simp; omega), List.getElem?_drop]
  rfl
theorem spoilt_end (L : List Int) : (spoilt L 0)[L.length]? = some 4321 := by simp [spoilt]
theorem spoilt_set (L : List Int) (i : Nat) (h : i < L.length) : (spoilt L i).set i 77 = spoilt L (i + 1) := by
  apply List.ext_getElem?
  intro j
  have hl := spoilt_length L i (by omega)
  rw [List.getElem?_set]
  by_cases hj : i = j
  · subst hj
    rw [if_pos rfl, if_pos (by omega)]
    unfold spoilt
    rw [List.append_assoc, List.getElem?_append_left (by simp), List.getElem?_replicate, if_pos (by omega)]
  · rw [if_neg hj]
    unfold spoilt
    simp only [List.append_assoc]
    by_cases h1 : j < i
    · rw [List.getElem?_append_left (l₁ := List.replicate i 77) (by simp; omega), List.getElem?_append_left (l₁ := List.replicate (i + 1) 77) (by simp; omega), List.getElem?_replicate, List.getElem?_replicate, if_pos h1, if_pos (by omega)]
    · rw [List.getElem?_append_right (l₁ := List.replicate i 77) (by simp; omega), List.getElem?_append_right (l₁ := List.replicate (i + 1) 77) (by simp; omega)]
      simp only [List.length_replicate]
      by_cases h2 : j < L.length
      · rw [List.getElem?_append_left (l₁ := L.drop i) (by simp; omega), List.getElem?_append_left (l₁ := L.drop (i + 1)) (by simp; omega), List.getElem?_drop, List.getElem?_drop]
        congr 1
        omega
      · rw [List.getElem?_append_right (l₁ := L.drop i) (by simp; omega), List.getElem?_append_right (l₁ := L.drop (i + 1)) (by simp; omega)]
        congr 1
        simp
        omega

theorem Sl.front {w : World} {e size n cap : Nat} {ao : Option Addr} {xs : List Value} (h : Sl w e size (.slice ao n cap) n xs) {k : Nat} (hk : k ≤ n) : Sl w e size (.slice ao k cap) k (xs.take (k * size)) := by
  obtain ⟨ao', cap', hv, h0, h1, h2, h3⟩ := h
  simp at hv
  obtain ⟨rfl, rfl⟩ := hv
  have hm : k * size ≤ n * size := Nat.mul_le_mul_right _ hk
  refine ⟨_, _, rfl, by rw [List.length_take]; omega, by omega, h2, ?_⟩
  rcases h3 with ⟨rfl, h⟩ | ⟨g, off, cur, rfl, hb, hc, hx⟩
  · exact .inl ⟨rfl, h⟩
  · refine .inr ⟨g, off, cur, rfl, hb, hc, ?_⟩
    rw [← hx, List.take_take]
    congr 1
    omega

/-- What Swap answers. -/
def SwapSays (X : Bx) (L : List Int) (n : Nat) (c : Int) (Y : Bx) : Prop := (c = 0 ∧ n = X.ns.length ∧ Y = { X with ns := swapN X.ns L }) ∨ (c = 1 ∧ n ≠ X.ns.length ∧ Y = X)

theorem Swap_any (p : Nat) (mv : Value) (X : Bx) (w : World) (h : Mb w p mv X) (a : Option Addr) (n c : Nat) (L : List Int) (hs : Sl w 26 1 (.slice a n c) n (u64s L)) :
    Calls Try.prog 30 #[.pointer (some ⟨p, 0, none⟩), .slice a n c] w fun e w' => ∃ (z : Int) (Y : Bx), e = .returned (.int .i64 z) ∧ MPost p X.ns mv Y w w' ∧ SwapSays X L n z Y := by
  by_cases hn : n = X.ns.length
  · subst hn
    exact (Swap_yes p mv X w h a c L hs).mono fun e w' ⟨h1, h2⟩ => ⟨0, _, h1, h2, .inl ⟨rfl, rfl, rfl⟩⟩
  · exact (Swap_no p mv X w h a n c hn).mono fun e w' ⟨h1, h2⟩ => ⟨1, X, h1, h2, .inr ⟨rfl, hn, rfl⟩⟩

set_option maxHeartbeats 6400000 in
set_option maxRecDepth 100000 in
theorem swap51 (B : Nat) (w0 w : World) (p : Nat) (mv : Value) (X : Bx) (h : MbIn B w0 w p mv X) (ao : Option Addr) (nl cap : Nat)
    (L : List Int) (hv : Rd w0 1 (.slice ao nl cap) nl (u64s L)) (hB : w0.heap.size ≤ B) (hreach : cap * 8 ≤ 140737488351232) :
    Calls Try.prog 51 #[.pointer (some ⟨p, 0, none⟩), .slice ao nl cap] w fun e w' => ∃ (z : Int) (Y : Bx), e = .returned (.tuple #[.int .i64 z, .bool true]) ∧ MPost p X.ns mv Y w w' ∧ SwapSays X L nl z Y := by
  obtain ⟨i0, hinf, hz0, hz1, hz2⟩ := info_parts Try.info26
  obtain ⟨_, _, hvs, hnc, hcm⟩ := hv.shape
  simp at hvs
  obtain ⟨rfl, rfl⟩ := hvs
  have HLL := Lib.hid (show L.length = nl by have := hv.len; simpa [u64s] using this)
  have hlt := h.m.lt
  have hsz := h.size
  go_enter Try.func51, Try.ntmps51
  go_wp2_with (at_builtin; refine wpList_append_sl_rd rfl (.tmp 10) (.tmp 11) 22 rfl 26 i0 (.int .u64 0) 1 8 Try.underlying22 hinf hz0 hz1 hz2 rfl (by decide) (.slice none 0 0) 0 [] rfl (Sl.nil _ _ _) _ nl (u64s L) rfl (hv.below hB h.below) (u64s_one _) (by unfold maxLen at *; omega) (by omega) ?nx)
  case nx =>
  intro v2 w2 hs2 hf2 hv2
  have hf2' : Fr (fun _ => False) w w2 := hf2.mono (by simp [Value.ownBlock])
  have h2 := h.keep hf2' (fun _ _ h => h) (fun _ h => h.elim)
  have hn2 : ∀ k, v2.ownBlock = some k → w.heap.size ≤ k := by
    intro k hk
    rcases hv2 with h | h
    · rw [h] at hk; simp [Value.ownBlock] at hk
    · rw [h] at hk; simp at hk; omega
  obtain ⟨ao2, cap2, rfl, hnc2, hcm2⟩ := hs2.shape
  clear hf2 hv2
  go_wp2_with (at_builtin; refine wpList_append_sl rfl (.tmp 13) (.tmp 14) 22 rfl 26 i0 (.int .u64 0) 1 8 Try.underlying22 hinf hz0 hz1 hz2 rfl (by decide) _ _ _ rfl (hs2.alloc _) ⟨w2.heap.size, 0, none⟩ 1 1 [.int .u64 4321] rfl rfl (cell_one_new _ _ _) (by simp [Value.oneCell']) ?b1 ?b2 ?nx2)
  case b1 => unfold maxLen at *; omega
  case b2 => omega
  case nx2 =>
  intro v3 w3 hs3 hf3 hv3
  have hfa := ((Fr.refl (fun k => (Value.slice ao2 nl cap2).ownBlock = some k) w2).alloc (.cells #[.int .u64 4321] 26)).trans hf3
  have hw3 : Fr (fun _ => False) w w3 := hf2'.trans' hfa (fun k hk => .inr (hn2 k hk))
  have h3 := h.keep hw3 (fun _ _ h => h) (fun _ h => h.elim)
  have hn3 : ∀ k, v3.ownBlock = some k → w.heap.size ≤ k := by
    intro k hk
    rcases hv3 with h | h
    · exact hn2 k (h ▸ hk)
    · rw [h] at hk; simp at hk; have := hf2'.size; omega
  have hs4 : Sl w3 26 1 v3 (nl + 1) (u64s (spoilt L 0)) := by simpa [u64s, spoilt] using hs3
  obtain ⟨g3, off3, cap3, cur3, rfl, hnc3, hcm3, _, _, _⟩ := hs4.blk (by omega)
  have q3 : Sl w3 26 1 (.slice (some ⟨g3, off3, none⟩) nl cap3) nl (u64s L) := by
    have := hs4.front (show nl ≤ nl + 1 by omega)
    rw [Nat.mul_one] at this
    have e1 : (u64s (spoilt L 0)).take nl = u64s L := by
      rw [show spoilt L 0 = L ++ [4321] by simp [spoilt]]
      unfold u64s
      rw [List.map_append]
      exact List.take_left' (by simp; exact HLL.out)
    rw [e1] at this
    exact this
  have hnl : (0 : Int) ≤ nl := by omega
  unfold maxLen at hcm3 hcm
  have hg3 := hn3 g3 rfl
  have hg3m : ¬ mf p X.ns mv g3 := fun h => by have := hlt g3 h; omega
  clear h2 hs3 hf3 hv3 hfa hs2 hn3 hn2 hf2'
  go_wp2_with fail
  refine (Swap_any p mv X _ h3.m _ nl cap3 L q3).mono ?_
  rintro e w4 ⟨z, Y, rfl, hp, hc⟩
  obtain ⟨mv4, hM4, hf4, hg4⟩ := hp
  have hs5 := hf4.sl hs4 (fun k hk h => by simp [Value.ownBlock] at hk; subst hk; exact hg3m h)
  have hd5 : ¬ mf p Y.ns mv4 g3 := fun h => by
    rcases hg4 _ h with x | x
    · exact hg3m x
    · have := hs4.lt g3 rfl; omega
  have hfw : Fr (mf p X.ns mv) w w4 := (hw3.mono fun _ h => h.elim).trans hf4
  have hgw : Hid (∀ k, mf p Y.ns mv4 k → mf p X.ns mv k ∨ w.heap.size ≤ k) := fun k hk => (hg4 k hk).imp id (fun h => Nat.le_trans hw3.size h)
  have hbw : Below B w0 w4 := h3.below.trans (hf4.below h3.size (fun k hk => h.lies k hk))
  have HD := Lib.hid hd5
  have HC := Lib.hid hc
  clear h3 hf4 hg4 hs4 hd5 hc q3 hw3
  have ce := hs5.cell nl (by omega)
  rw [← HLL.out, u64s_at (spoilt_end L), HLL.out] at ce
  go_wp2_with fail
  go_loopw [8, 30] (fun s8 s30 wr => ∃ i : Nat, i ≤ nl ∧ s30 = .int .i64 i ∧ s8 = .bool true ∧ Sl wr 26 1 (.slice (some ⟨g3, off3, none⟩) (nl + 1) cap3) (nl + 1) (u64s (spoilt L i)) ∧ Mb wr p mv4 Y ∧ Fr (mf p X.ns mv) w wr ∧ Below B w0 wr) (fun _ s30 _ => nl - (intOf s30).toNat)
  case atStart => exact ⟨0, by omega, rfl, rfl, hs5, hM4, hfw, hbw⟩
  case round =>
    clear hs5 hM4 hfw hbw ce
    obtain ⟨i, hi, rfl, rfl, hs, hM, hfw, hbw⟩ := hrel
    by_cases hlt2 : i < nl
    · obtain ⟨x, hx'⟩ : ∃ x, L[i]? = some x := ⟨L[i]'(by have := HLL.out; omega), List.getElem?_eq_getElem _⟩
      have ci := hs.cell i (by omega)
      have fi := hs.free (off3 + i)
      rw [u64s_at ((spoilt_at L i (by have := HLL.out; omega)).trans hx')] at ci
      obtain ⟨g, off, cap', hv', _, _, hcell⟩ := (hv.below hB hbw).at (by omega)
      simp at hv'
      obtain ⟨rfl, rfl⟩ := hv'
      have cj := hcell i (by omega)
      rw [u64s_at hx'] at cj
      clear hcell hx'
      have HS := Lib.hid (And.intro hs (And.intro hM (And.intro hfw hbw)))
      clear hs hM hfw hbw
      go_wp2_with fail
      go_quiet (fail)
      have hs := HS.out.1.drewN nq
      have hM := HS.out.2.1.keep ((Fr.refl (fun _ => False) wr).drewN nq) (fun _ _ h => h)
      have hst := hs.store i (by omega) (.int .u64 77)
      have hst2 : Sl ((wr.drewN nq).setCell ⟨g3, off3 + i, none⟩ (.int .u64 77)) 26 1 (.slice (some ⟨g3, off3, none⟩) (nl + 1) cap3) (nl + 1) (u64s (spoilt L (i + 1))) := by
        rw [← spoilt_set L i (by have := HLL.out; omega)]
        simpa [u64s] using hst
      have hfs : Fr (fun k => k = g3) (wr.drewN nq) ((wr.drewN nq).setCell ⟨g3, off3 + i, none⟩ (.int .u64 77)) := (Fr.refl (fun k => k = g3) _).setCell (p := ⟨g3, off3 + i, none⟩) (Or.inl rfl) _
      have hMs := hM.keep hfs (fun k hk e => by subst e; exact HD.out hk)
      have hfws : Fr (mf p X.ns mv) w ((wr.drewN nq).setCell ⟨g3, off3 + i, none⟩ (.int .u64 77)) := (HS.out.2.2.1.drewN nq).trans' hfs (fun k e => by subst e; exact .inr hg3)
      have hbws : Below B w0 ((wr.drewN nq).setCell ⟨g3, off3 + i, none⟩ (.int .u64 77)) := (bel_drewN HS.out.2.2.2 nq).trans (hfs.below (by have := HS.out.2.2.1.size; show B ≤ wr.heap.size; omega) (fun k e => by subst e; omega))
      have HR := Lib.hid (And.intro hst2 (And.intro hMs (And.intro hfws hbws)))
      clear hs hM hst hst2 hfs hMs hfws hbws
      go_wp2_with fail
      go_roundw
      case rel => exact ⟨i + 1, by omega, by go_num, rfl, HR.out.1, HR.out.2.1, HR.out.2.2.1, HR.out.2.2.2⟩
      case measure => simp [intOf]; omega
    · obtain rfl : i = nl := by omega
      go_wp2_with fail
      go_ret2
      exact ⟨z, Y, rfl, ⟨mv4, hM, hfw, hgw.out⟩, HC.out⟩
end Go.Proofs.Ytgijaehmffojhaa
