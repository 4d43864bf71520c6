/- One call, of both: Swap. -/
import Derived.Test.YtbedgeimpobhdaaStep
namespace Go.Proofs.Ytbedgeimpobhdaa
open Go.RowKit

/-- What the law's own list holds while it is spoilt: i places are. -/
def spoilt (L : List Int) (i : Nat) : List Int := List.replicate i 77 ++ L.drop i ++ [4321]
theorem spoilt_length (L : List Int) (i : Nat) (h : i ≤ L.length) : (spoilt L i).length = L.length + 1 := by simp [spoilt]; omega
theorem spoilt_at (L : List Int) (i : Nat) (h : i < L.length) : (spoilt L i)[i]? = L[i]? := by
  unfold spoilt
  rw [List.append_assoc, List.getElem?_append_right (by simp), List.length_replicate, Nat.sub_self, List.getElem?_append_left (by simp; omega), List.getElem?_drop]
  rfl
theorem spoilt_end (L : List Int) : (spoilt L 0)[L.length]? = some 4321 := by simp [spoilt]
theorem spoilt_set (L : List Int) (i : Nat) (h : i < L.length) : (spoilt L i).set i 77 = spoilt L (i + 1) := by
  apply List.ext_getElem?
  intro j
  have hl := spoilt_length L i (by omega)
  rw [List.getElem?_set]
  by_cases hj : i = j
  · subst hj
    rw [if_pos rfl, if_pos (by omega)]
    unfold spoilt
    rw [List.append_assoc, List.getElem?_append_left (by simp), List.getElem?_replicate, if_pos (by omega)]
  · rw [if_neg hj]
    unfold spoilt
    simp only [List.append_assoc]
    by_cases h1 : j < i
    · rw [List.getElem?_append_left (l₁ := List.replicate i 77) (by simp; omega), List.getElem?_append_left (l₁ := List.replicate (i + 1) 77) (by simp; omega), List.getElem?_replicate, List.getElem?_replicate, if_pos h1, if_pos (by omega)]
    · rw [List.getElem?_append_right (l₁ := List.replicate i 77) (by simp; omega), List.getElem?_append_right (l₁ := List.replicate (i + 1) 77) (by simp; omega)]
      simp only [List.length_replicate]
      by_cases h2 : j < L.length
      · rw [List.getElem?_append_left (l₁ := L.drop i) (by simp; omega), List.getElem?_append_left (l₁ := L.drop (i + 1)) (by simp; omega), List.getElem?_drop, List.getElem?_drop]
        congr 1
        omega
      · rw [List.getElem?_append_right (l₁ := L.drop i) (by simp; omega), List.getElem?_append_right (l₁ := L.drop (i + 1)) (by simp; omega)]
        congr 1
        simp
        omega

theorem Swap_either (p : Nat) (room : Int) (at_ : Nat) (ex : Int) (l : List Int) (sl : Value) (w : World) (hb : Box w p room at_ ex l sl) (v : Value) (n : Nat) (xs : List Int) (hv : Rd w 1 v n (u64s xs)) :
    Calls Try.prog 25 #[.pointer (some ⟨p, 0, none⟩), v] w fun e w' => ∃ (c : Int) (l' : List Int), e = .returned (.int .i64 c) ∧ BoxPost p room at_ ex l' sl w w' ∧ ((c = 0 ∧ n = l.length ∧ l' = xs) ∨ (c = 1 ∧ n ≠ l.length ∧ l' = l)) := by
  by_cases h : n = l.length
  · subst h
    exact (Swap_yes p room at_ ex l sl w hb v xs hv).mono fun e w' ⟨h1, h2⟩ => ⟨0, xs, h1, h2, .inl ⟨rfl, rfl, rfl⟩⟩
  · exact (Swap_no p room at_ ex l sl w hb v n xs hv h).mono fun e w' ⟨h1, h2⟩ => ⟨1, l, h1, by subst h2; exact hb.post ⟨0, rfl⟩, .inr ⟨rfl, h, rfl⟩⟩

theorem RSwap_either (q : Nat) (room : Int) (at_ : Nat) (last ex : Int) (l : List Int) (sl : Value) (w : World) (hb : RBox w q room at_ last ex l sl) (hl : l.length ≤ 1000) (v : Value) (n : Nat) (xs l' : List Int) (c : Int) (hv : Rd w 1 v n (u64s xs))
    (hc : (c = 0 ∧ n = l.length ∧ l' = xs) ∨ (c = 1 ∧ n ≠ l.length ∧ l' = l)) :
    Calls Try.prog 33 #[.pointer (some ⟨q, 0, none⟩), v] w fun e w' => e = .returned (.int .i64 c) ∧ RPost q room at_ last ex l' sl w w' := by
  rcases hc with ⟨rfl, h, rfl⟩ | ⟨rfl, h, rfl⟩
  · subst h
    exact RSwap_yes q room at_ last ex l sl w hb v l' hv hl
  · exact (RSwap_no q room at_ last ex l' sl w hb v n xs hv h).mono fun e w' ⟨h1, h2⟩ => ⟨h1, by subst h2; exact hb.post ⟨0, rfl⟩⟩

set_option maxHeartbeats 6400000 in
set_option maxRecDepth 100000 in
theorem step_8 (B : Nat) (w0 w : World) (p q : Nat) (room : Int) (at_ : Nat) (ex : Int) (l : List Int) (h : Two B w0 w p q room at_ ex l) (hroom : room ≤ 32) (m n : Int) (ao : Option Addr) (nl cap : Nat)
    (L : List Int) (hv : Rd w0 1 (.slice ao nl cap) nl (u64s L)) (hB : w0.heap.size ≤ B) (hreach : cap * 8 ≤ 140737488351232) :
    Calls Try.prog 19 #[.pointer (some ⟨p, 0, none⟩), .pointer (some ⟨q, 0, none⟩), opv 8 m n ao nl cap] w fun e w' => ∃ l', e = .returned (.bool true) ∧ Two B w0 w' p q room at_ ex l' := by
  obtain ⟨i0, hinf, hz0, hz1, hz2⟩ := info_parts Try.info28
  obtain ⟨sl1, sl2, hP, hat, hlr⟩ := h
  obtain ⟨_, _, hvs, hnc, hcm⟩ := hv.shape
  simp at hvs
  obtain ⟨rfl, rfl⟩ := hvs
  have HLL := Lib.hid (show L.length = nl by have := hv.len; simpa [u64s] using this)
  obtain ⟨X, hX⟩ : ∃ X, w.heap.size = X := ⟨_, rfl⟩
  obtain ⟨w1, hw1⟩ : ∃ w1, w.alloc (.cells #[.int .i64 8, .int .u64 m, .int .i64 n, .slice ao nl cap] 48) = w1 := ⟨_, rfl⟩
  have hx : w1.heap[X]? = some (.cells #[.int .i64 8, .int .u64 m, .int .i64 n, .slice ao nl cap] 48 (0, 0)) := by subst hw1 hX; exact heap_alloc_new w _
  have hf1 : Fr (fun _ => False) w w1 := by subst hw1; exact (Fr.refl _ w).alloc _
  have hP1 := hP.keep hf1 (fun _ _ h => h) (fun _ _ h => h) (fun _ h => h.elim)
  have hlt := hP.lt
  rw [hX] at hlt
  obtain ⟨hlt1, hlt2⟩ := hlt
  have cx0 := blk_cell hx 0
  have cx3 := blk_cell hx 3
  simp at cx0 cx3
  clear hP hf1
  unfold opv
  go_enter Try.func19, Try.ntmps19
  go_wp2_with (at_builtin; refine wpList_append_sl_rd rfl (.tmp 117) (.tmp 119) 22 rfl 28 i0 (.int .u64 0) 1 8 Try.underlying22 hinf hz0 hz1 hz2 rfl (by decide) (.slice none 0 0) 0 [] rfl (Sl.nil _ _ _) _ nl (u64s L) rfl (hv.below hB hP1.b.below) (u64s_one _) (by unfold maxLen at *; omega) (by omega) ?nx)
  case nx =>
  intro v2 w2 hs2 hf2 hv2
  have hP2 := hP1.keep hf2 (by simp [Value.ownBlock]) (by simp [Value.ownBlock]) (by simp [Value.ownBlock])
  have hx2 := hf2.at hx (by simp [Value.ownBlock])
  have hn2 : ∀ k, v2.ownBlock = some k → X < k := by
    intro k hk
    rcases hv2 with h | h
    · rw [h] at hk; simp [Value.ownBlock] at hk
    · rw [h] at hk; simp at hk; have := blk_lt hx; omega
  obtain ⟨ao2, cap2, rfl, hnc2, hcm2⟩ := hs2.shape
  clear hP1 hf2 hv2 cx0 cx3 hw1 hx
  go_wp2_with (at_builtin; refine wpList_append_sl rfl (.tmp 121) (.tmp 122) 22 rfl 28 i0 (.int .u64 0) 1 8 Try.underlying22 hinf hz0 hz1 hz2 rfl (by decide) _ _ _ rfl (hs2.alloc _) ⟨w2.heap.size, 0, none⟩ 1 1 [.int .u64 4321] rfl rfl ?c1 ?c2 ?b1 ?b2 ?nx2)
  case c1 => intro j u hj; match j, hj with | 0, hj => simp at hj; subst hj; simp [Addr.add]
  case c2 => intro u hu; simp at hu; subst hu; rfl
  case b1 => unfold maxLen at *; omega
  case b2 => omega
  case nx2 =>
  intro v3 w3 hs3 hf3 hv3
  have hfa := ((Fr.refl (fun k => (Value.slice ao2 nl cap2).ownBlock = some k) w2).alloc (.cells #[.int .u64 4321] 28)).trans hf3
  have hX2 := blk_lt hx2
  have hP3 := hP2.keep hfa (fun k hk hF => by have := hn2 k hF; have := hlt1 k hk; omega) (fun k hk hF => by have := hn2 k hF; have := hlt2 k hk; omega) (fun k hF => by
    have := hn2 k hF
    have h1 := hP2.b.lies p (Or.inl rfl)
    have h2 := hlt1 p (Or.inl rfl)
    omega)
  have hx3 := hfa.at hx2 (fun h => by have := hn2 _ h; omega)
  have hn3 : ∀ k, v3.ownBlock = some k → X < k ∧ ¬ bf p sl1 k ∧ ¬ bf q sl2 k := by
    intro k hk
    have hXk : X < k := by
      rcases hv3 with h | h
      · exact hn2 k (h ▸ hk)
      · rw [h] at hk; simp at hk; omega
    exact ⟨hXk, fun h => by have := hlt1 k h; omega, fun h => by have := hlt2 k h; omega⟩
  have hs4 : Sl w3 28 1 v3 (nl + 1) (u64s (spoilt L 0)) := by simpa [u64s, spoilt] using hs3
  obtain ⟨g3, off3, cap3, cur3, rfl, hnc3, hcm3, _, _, _⟩ := hs4.blk (by omega)
  have q3 : Rd w3 1 (.slice (some ⟨g3, off3, none⟩) nl cap3) nl (u64s L) := by
    have := hs4.rd.take (show nl ≤ nl + 1 by omega)
    rw [Nat.mul_one] at this
    have e1 : (u64s (spoilt L 0)).take nl = u64s L := by
      rw [show spoilt L 0 = L ++ [4321] by simp [spoilt]]
      unfold u64s
      rw [List.map_append]
      exact List.take_left' (by simp; exact HLL.out)
    rw [e1] at this
    exact this
  have cx3 := blk_cell hx3 3
  simp at cx3
  have hnl : (0 : Int) ≤ nl := by omega
  unfold maxLen at hcm3 hcm
  have HN3 := hn3 g3 rfl
  clear hP2 hx2 hn2 hs3 hf3 hv3 hfa hX2 hs2 hn3
  go_wp2_with fail
  refine (Swap_either p room at_ ex l _ _ hP3.b.box _ nl L q3).mono ?_
  rintro e w4 ⟨c, l', rfl, hp, hc⟩
  obtain ⟨sl3, hP4, hf4, hg4⟩ := hP3.stepB3 hp
  have hx4 := hf4.at hx3 (fun h => absurd (hlt1 _ h) (Nat.lt_irrefl _))
  have hs5 := hf4.sl hs4 (fun k hk h => by simp [Value.ownBlock] at hk; subst hk; exact HN3.2.1 h)
  have hd5 : ¬ bf p sl3 g3 := fun h => by
    rcases hg4 _ h with x | x
    · exact HN3.2.1 x
    · have := hs4.lt g3 rfl; omega
  have hXs : ¬ bf p sl3 X ∧ ¬ bf q sl2 X := ⟨fun h => by
    rcases hg4 _ h with x | x
    · exact absurd (hlt1 _ x) (Nat.lt_irrefl _)
    · have := blk_lt hx3; omega, fun h => absurd (hlt2 _ h) (Nat.lt_irrefl _)⟩
  have HD := Lib.hid (And.intro hd5 (And.intro HN3.2.2 (And.intro HN3.1 hXs)))
  have HC := Lib.hid hc
  have hle := Lib.hid (show at_ ≤ l'.length ∧ (l'.length : Int) ≤ room by
    rcases hc with ⟨_, h, rfl⟩ | ⟨_, _, rfl⟩
    · have := HLL.out; omega
    · omega)
  have hB3 := Lib.hid (show B ≤ g3 by have h1 := hP4.b.lies p (Or.inl rfl); have h2 := hlt1 p (Or.inl rfl); have := HN3.1; omega)
  clear hP3 hx3 hf4 hg4 hs4 hd5 hXs hp hc cx3 q3 HN3 hlt1 hlt2
  have cx3 := blk_cell hx4 3
  have ce := hs5.cell nl (by omega)
  rw [← HLL.out, u64s_at (spoilt_end L), HLL.out] at ce
  simp at cx3
  go_wp2_with fail
  go_loopw [18, 19] (fun s18 s19 wr => ∃ i : Nat, i ≤ nl ∧ s19 = .int .i64 i ∧ s18 = .bool true ∧ Sl wr 28 1 (.slice (some ⟨g3, off3, none⟩) (nl + 1) cap3) (nl + 1) (u64s (spoilt L i)) ∧ Pair B w0 wr p q room at_ ex l' sl3 at_ (at_ - 1) ex l sl2 ∧
      wr.heap[X]? = some (.cells #[.int .i64 8, .int .u64 m, .int .i64 n, .slice ao nl cap] 48 (0, 0))) (fun _ s19 _ => nl - (intOf s19).toNat)
  case atStart => exact ⟨0, by omega, rfl, rfl, hs5, hP4, hx4⟩
  case round =>
    clear hs5 hP4 hx4 cx3 ce
    obtain ⟨i, hi, rfl, rfl, hs, hP, hx⟩ := hrel
    have cx3 := blk_cell hx 3
    simp at cx3
    by_cases hlt : i < nl
    · obtain ⟨x, hx'⟩ : ∃ x, L[i]? = some x := ⟨L[i]'(by have := HLL.out; omega), List.getElem?_eq_getElem _⟩
      have ci := hs.cell i (by omega)
      have fi := hs.free (off3 + i)
      rw [u64s_at ((spoilt_at L i (by have := HLL.out; omega)).trans hx')] at ci
      obtain ⟨g, off, cap', hv', _, _, hcell⟩ := (hv.below hB hP.b.below).at (by omega)
      simp at hv'
      obtain ⟨rfl, rfl⟩ := hv'
      have cj := hcell i (by omega)
      rw [u64s_at hx'] at cj
      clear hcell hx'
      have HS := Lib.hid (And.intro hs (And.intro hP hx))
      clear hs hP hx
      go_wp2_with fail
      go_quiet (fail)
      have hs := HS.out.1.drewN nq
      have hx : (wr.drewN nq).heap[X]? = some (.cells #[.int .i64 8, .int .u64 m, .int .i64 n, .slice (some ⟨g, off, none⟩) nl cap] 48 (0, 0)) := HS.out.2.2
      have hP := HS.out.2.1.keep ((Fr.refl (fun _ => False) wr).drewN nq) (fun _ _ h => h) (fun _ _ h => h) (fun _ h => h.elim)
      have hst := hs.store i (by omega) (.int .u64 77)
      have hst2 : Sl ((wr.drewN nq).setCell ⟨g3, off3 + i, none⟩ (.int .u64 77)) 28 1 (.slice (some ⟨g3, off3, none⟩) (nl + 1) cap3) (nl + 1) (u64s (spoilt L (i + 1))) := by
        rw [← spoilt_set L i (by have := HLL.out; omega)]
        simpa [u64s] using hst
      have hfs : Fr (fun k => k = g3) (wr.drewN nq) ((wr.drewN nq).setCell ⟨g3, off3 + i, none⟩ (.int .u64 77)) := (Fr.refl (fun k => k = g3) _).setCell (p := ⟨g3, off3 + i, none⟩) (Or.inl rfl) _
      have hPs := hP.keep hfs (fun k hk e => by subst e; exact HD.out.1 hk) (fun k hk e => by subst e; exact HD.out.2.1 hk) (fun k e => by subst e; exact hB3.out)
      have hxs := hfs.at hx (fun e => by have := HD.out.2.2.1; omega)
      have HR := Lib.hid (And.intro hst2 (And.intro hPs hxs))
      clear hs hP hx hst hst2 hfs hPs hxs
      go_wp2_with fail
      go_roundw
      case rel => exact ⟨i + 1, by omega, by go_num, rfl, HR.out.1, HR.out.2.1, HR.out.2.2⟩
      case measure => simp [intOf]; omega
    · obtain rfl : i = nl := by omega
      go_wp2_with fail
      refine (RSwap_either q room at_ _ ex l _ _ hP.r (by omega) _ i L l' c (hv.below hB hP.b.below) HC.out).mono ?_
      rintro e w5 ⟨rfl, hp⟩
      obtain ⟨sl4, hP5, _⟩ := hP.stepR hp
      clear hP hp hx cx3
      go_wp2_with fail
      go_ret
      exact ⟨l', rfl, sl3, sl4, hP5, hle.out⟩
end Go.Proofs.Ytbedgeimpobhdaa
