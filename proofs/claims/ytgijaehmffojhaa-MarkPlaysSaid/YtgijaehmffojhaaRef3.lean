/- The document's marked mailbox: Stop, Take, Forget, Swap, Drop, Words. -/
import Derived.Test.YtgijaehmffojhaaSays
import Derived.Test.YtgijaehmffojhaaGather
namespace Go.Proofs.Ytgijaehmffojhaa
open Go.RowKit

def Rx.stopped (R : Rx) : Rx := { R with atn := 0, last := 0, going := false, ms := [] }

theorem RStop_any (q : Nat) (lv mv : Value) (R : Rx) (w : World) (h : Rb w q lv mv R) :
    Calls Try.prog 49 #[.pointer (some ⟨q, 0, none⟩)] w fun e w' => e = .returned (.tuple #[]) ∧ RPost q lv mv R.stopped w w' := by
  have c3 := blk_cell h.blk 3
  have f3 := blk_free h.blk 3
  have c4 := blk_cell h.blk 4
  have f4 := blk_free h.blk 4
  have c5 := blk_cell h.blk 5
  have f5 := blk_free h.blk 5
  have c6 := blk_cell h.blk 6
  have f6 := blk_free h.blk 6
  simp at c3 c4 c5 c6
  go_enter Try.func49, Try.ntmps49
  go_wp2_with fail
  go_end0
  have h5 := ((h.set_at 0).set_last 0).set_going false
  have hf := setCell_q (setCell_q (setCell_q (Fr.refl (rf q lv mv) w) 3 (.int .i64 0)) 4 (.int .i64 0)) 5 (.bool false)
  obtain ⟨l2, m2, hb2, hf2, hg2⟩ := h5.put_ms (Fr.refl _ _) (mv' := .slice none 0 0) (ms := []) (Sl.nil _ _ _) (.inr (by simp [Value.ownBlock]))
  refine ⟨rfl, l2, m2, hb2, hf.trans hf2, fun k hk => ?_⟩
  rcases hg2 k hk with x | x
  · exact .inl x
  · exact .inr (by simpa [World.setCell] using x)

theorem RForget_none (q : Nat) (lv mv : Value) (R : Rx) (ref : Int) (w : World) (h : Rb w q lv mv R) (hl : R.ms.length ≤ 1000) (hp : place (·.1) ref R.ms = -1) :
    Calls Try.prog 50 #[.pointer (some ⟨q, 0, none⟩), .int .i64 ref] w fun e w' => e = .returned (.bool false) ∧ RPost q lv mv R w w' := by
  have HP := Lib.hid hp
  clear hp
  go_enter Try.func50, Try.ntmps50
  go_wp2_with fail
  refine (RFind_any q lv mv R ref _ h hl).mono ?_
  rintro e w1 ⟨rfl, hb⟩
  rw [HP.out]
  go_wp2_with fail
  go_ret
  exact ⟨rfl, h.same hb⟩

theorem RForget_some (q : Nat) (lv mv : Value) (R : Rx) (ref : Int) (w : World) (h : Rb w q lv mv R) (hl : R.ms.length ≤ 1000) (k : Nat) (hp : place (·.1) ref R.ms = k) (hk : k < R.ms.length) :
    Calls Try.prog 50 #[.pointer (some ⟨q, 0, none⟩), .int .i64 ref] w fun e w' => e = .returned (.bool true) ∧ RPost q lv mv { R with ms := cutA R.ms k } w w' := by
  have HP := Lib.hid hp
  clear hp
  go_enter Try.func50, Try.ntmps50
  go_wp2_with fail
  refine (RFind_any q lv mv R ref _ h hl).mono ?_
  rintro e w1 ⟨rfl, hb⟩
  rw [HP.out]
  go_wp2_with fail
  refine (ROut_any q lv mv R k _ (h.keep (bel_fr0 hb) (fun _ _ h => h)) hk hl).mono ?_
  rintro e w2 ⟨rfl, hp⟩
  go_wp2_with fail
  go_ret
  exact ⟨rfl, hp.from (bel_fr0 hb) (fun _ h => h.elim)⟩

def Rx.dropped (R : Rx) : Rx := { R with L := [], atn := 0, last := 0, going := false, ms := [] }

theorem RDrop_any (q : Nat) (lv mv : Value) (R : Rx) (w : World) (h : Rb w q lv mv R) :
    Calls Try.prog 53 #[.pointer (some ⟨q, 0, none⟩)] w fun e w' => e = .returned (.tuple #[]) ∧ RPost q lv mv R.dropped w w' := by
  have c1 := blk_cell h.blk 1
  have f1 := blk_free h.blk 1
  simp at c1
  have hp1 := h.put_L (Fr.refl _ _) (lv' := .slice none 0 0) (L := []) (Sl.nil _ _ _) (.inr (by simp [Value.ownBlock]))
  obtain ⟨l2, m2, hb2, hf2, hg2⟩ := id hp1
  go_enter Try.func53, Try.ntmps53
  go_wp2_with fail
  refine (RStop_any q l2 m2 _ _ hb2).mono ?_
  rintro e w2 ⟨rfl, hp⟩
  go_wp2_with fail
  go_end0
  refine ⟨rfl, ?_⟩
  obtain ⟨l3, m3, hb3, hf3, hg3⟩ := hp
  refine ⟨l3, m3, hb3, hf2.trans' hf3 hg2, fun k hk => ?_⟩
  rcases hg3 k hk with x | x
  · exact hg2 k x
  · exact .inr (by simpa [World.setCell] using x)

theorem RTake_none (q : Nat) (lv mv : Value) (R : Rx) (w : World) (h : Rb w q lv mv R) (hl : R.last = 0) :
    Calls Try.prog 48 #[.pointer (some ⟨q, 0, none⟩)] w fun e w' => e = .returned (.tuple #[.int .u64 0, .int .i64 111]) ∧ w' = w := by
  have c4 := blk_cell h.blk 4
  simp at c4
  rw [hl] at c4
  go_enter Try.func48, Try.ntmps48
  go_wp2_with fail
  go_ret2
  exact ⟨rfl, rfl⟩

theorem inc_uniq {L : List (Int × Int)} (hi : L.Pairwise (fun a b => a.2 < b.2)) {i j : Nat} {x y n : Int} (h1 : L[i]? = some (x, n)) (h2 : L[j]? = some (y, n)) : i = j := by
  have := cnt_at hi h1
  have := cnt_at hi h2
  omega

/-- What Take has gathered when it has gone through i messages. -/
theorem take_part {L : List (Int × Int)} (hi : L.Pairwise (fun a b => a.2 < b.2)) {k : Nat} {x n : Int} (hk : L[k]? = some (x, n)) : ∀ i, i ≤ L.length → (L.take i).filter (fun m => !(m.2 == n)) = if i ≤ k then L.take i else L.take k ++ (L.take i).drop (k + 1)
  | 0, _ => by simp
  | i + 1, h => by
    obtain ⟨⟨y, m⟩, hy⟩ : ∃ y, L[i]? = some y := ⟨L[i]'(by omega), List.getElem?_eq_getElem _⟩
    rw [List.take_add_one, hy, List.filter_append, take_part hi hk i (by omega)]
    by_cases e : i = k
    · subst e
      rw [hk] at hy
      simp at hy
      obtain ⟨rfl, rfl⟩ := hy
      rw [if_pos (Nat.le_refl _), if_neg (by omega), List.drop_eq_nil_of_le (by simp; omega)]
      simp
    · have hne : m ≠ n := fun e' => by subst e'; exact e (inc_uniq hi hy hk)
      have hf : List.filter (fun m => !(m.2 == n)) (some (y, m)).toList = [(y, m)] := by simp [hne]
      rw [hf]
      by_cases h1 : i ≤ k
      · rw [if_pos h1, if_pos (by omega)]
        rfl
      · rw [if_neg h1, if_neg (by omega), List.drop_append_of_le_length (by simp; omega), List.append_assoc]
        rfl

def Rx.taken (R : Rx) (k : Nat) : Rx := { R with L := cutA R.L k, atn := 0, last := 0, going := false, ms := [] }

set_option maxHeartbeats 3200000 in
theorem RTake_some (q : Nat) (lv mv : Value) (R : Rx) (w : World) (h : Rb w q lv mv R) (hl : R.L.length ≤ 1000) (hi : R.L.Pairwise (fun a b => a.2 < b.2)) (k : Nat) (x : Int) (hk : R.L[k]? = some (x, R.last)) (h0 : R.last ≠ 0) :
    Calls Try.prog 48 #[.pointer (some ⟨q, 0, none⟩)] w fun e w' => e = .returned (.tuple #[.int .u64 x, .int .i64 0]) ∧ RPost q lv mv (R.taken k) w w' := by
  obtain ⟨i0, hinf, hz0, hz1, hz2⟩ := info_parts Try.info75
  obtain ⟨ao, cap, rfl, hcap, hmax⟩ := h.ol.shape
  unfold maxLen at hmax
  have hkl := (List.getElem?_eq_some_iff.1 hk).1
  have c4 := blk_cell h.blk 4
  have c1 := blk_cell h.blk 1
  simp at c4 c1
  have HK := Lib.hid hk
  have HI := Lib.hid hi
  have hl0 : (R.last == 0) = false := by simpa using h0
  clear hk hi
  go_enter Try.func48, Try.ntmps48
  go_upto_block 0 with fail
  go_cut [4, 5] (fun s4 s5 wx => ∃ n, s5 = .int .u64 x ∧ Sl wx 75 2 s4 n (prs .u64 (cutA R.L k)) ∧ (∀ b, s4.ownBlock = some b → w.heap.size ≤ b) ∧ n = (cutA R.L k).length ∧ Below w.heap.size w wx)
  case first =>
    go_wp2_with fail
    go_loopg [4, 5, 18] R.L.length (fun g s4 s5 s18 wr => ∃ i : Nat, i + g = R.L.length ∧ s18 = .int .i64 i ∧ ∃ u n G, s5 = .int .u64 u ∧ Hid (u = if k < i then x else 0) ∧ Hid ((R.L.take i).filter (fun m => !(m.2 == R.last)) = G) ∧ n = G.length ∧ n ≤ 1000 ∧
      Sl wr 75 2 s4 n (prs .u64 G) ∧ (∀ b, s4.ownBlock = some b → w.heap.size ≤ b) ∧ Below w.heap.size w wr)
    case atStart => exact ⟨0, by omega, rfl, 0, 0, [], rfl, Lib.hid rfl, Lib.hid (by simp), rfl, by omega, Sl.nil _ _ _, by simp [Value.ownBlock], Below.refl _ _⟩
    case round =>
      obtain ⟨i, hik, rfl, u, n, G, rfl, hu, hG, hn, hn1, hs, hsb, hb⟩ := hrel
      obtain ⟨aos, caps, rfl, hcs, hms⟩ := hs.shape
      have HN := Lib.hid hn
      clear hn
      cases gk with
      | zero =>
        obtain rfl : i = R.L.length := by omega
        have hG2 : G = cutA R.L k := by
          rw [← hG.out, take_part HI.out HK.out _ (Nat.le_refl _), if_neg (by omega), List.take_of_length_le (Nat.le_refl _)]
          rfl
        obtain rfl : u = x := by rw [hu.out, if_pos hkl]
        have HG2 := Lib.hid hG2
        clear hG2
        go_wp2_with fail
        go_meet
        case rel => exact ⟨n, rfl, by rw [← HG2.out]; exact hs, hsb, by rw [← HG2.out]; exact HN.out, hb⟩
      | succ g =>
        have h1 := h.keep (bel_fr0 hb) (fun _ _ h => h)
        obtain ⟨⟨y, m⟩, hy⟩ : ∃ y, R.L[i]? = some y := ⟨R.L[i]'(by omega), List.getElem?_eq_getElem _⟩
        obtain ⟨b, off, cap', hv', _, _, hcell⟩ := h1.ol.rd.at (by omega)
        simp at hv'
        obtain ⟨rfl, rfl⟩ := hv'
        have d0 := hcell (i * 2) (by omega)
        have d1 := hcell (i * 2 + 1) (by omega)
        rw [(prs_at _ i y m hy).1] at d0
        rw [(prs_at _ i y m hy).2, ← Nat.add_assoc] at d1
        clear hcell
        have HY := Lib.hid hy
        clear hy
        obtain ⟨N, hN⟩ : ∃ N, wr.heap.size = N := ⟨_, rfl⟩
        obtain ⟨w2, hw2⟩ : ∃ w2, wr.alloc (.cells #[.int .u64 y, .int .i64 m] 75) = w2 := ⟨_, rfl⟩
        have hn2 : w2.heap[N]? = some (.cells #[.int .u64 y, .int .i64 m] 75 (0, 0)) := by subst hw2 hN; exact heap_alloc_new wr _
        have hb2 : Below w.heap.size w w2 := by subst hw2; exact hb.alloc hb.size _
        have hs2 : Sl w2 75 2 (.slice aos n caps) n (prs .u64 G) := by subst hw2; exact hs.alloc _
        have h2 := h.keep (bel_fr0 hb2) (fun _ _ h => h)
        have e0 := blk_cell hn2 0
        have e1 := blk_cell hn2 1
        have c42 := blk_cell h2.blk 4
        simp at e0 e1 c42
        by_cases hm : m = R.last
        · have hik2 : i = k := inc_uniq HI.out (by rw [HY.out, hm]) HK.out
          have hyx : y = x := by
            have := HY.out
            rw [hik2, HK.out] at this
            simp at this
            exact this.1.symm
          subst hyx
          rw [← hm] at c42
          have HM := Lib.hid hm
          have HIK := Lib.hid hik2
          clear hik2 hm
          go_wp2_with fail
          go_quiet (fail)
          go_wp2_with fail
          go_roundg g
          case measure => omega
          case rel =>
            exact ⟨i + 1, by omega, by go_num, y, n, G, rfl, Lib.hid (by rw [if_pos (by have := HIK.out; omega)]), Lib.hid (by
              rw [List.take_add_one, HY.out, List.filter_append, hG.out]
              simp [HM.out]), HN.out, hn1, hs2.drewN nq, hsb, bel_drewN hb2 nq⟩
        · have hmb : (m == R.last) = false := by simpa using hm
          go_wp2_with fail
          go_quiet (fail)
          have hs3 := hs2.drewN nq
          have hb3 := bel_drewN hb2 nq
          have hn3 : (w2.drewN nq).heap[N]? = some (.cells #[.int .u64 y, .int .i64 m] 75 (0, 0)) := hn2
          clear hs2 hs hb2 hn2 e0 e1 h1 h2 c42 d0 d1 hw2 hb
          generalize w2.drewN nq = w3 at hs3 hb3 hn3 ⊢
          have e0 := blk_cell hn3 0
          have e1 := blk_cell hn3 1
          simp at e0 e1
          go_wp2_with (at_builtin; refine wpList_append_sl rfl (.tmp 31) (.tmp 33) 39 rfl 75 i0 (.agg #[.int .u64 0, .int .i64 0]) 2 16 Try.underlying39 hinf hz0 hz1 hz2 rfl (by decide) (.slice aos n caps) n (prs .u64 G) rfl (hs3.alloc _) ⟨w3.heap.size, 0, none⟩ 1 1 [.int .u64 y, .int .i64 m] rfl rfl ?cc1 (prs_one (k := .u64) [(y, m)]) (by unfold maxLen; omega) (by omega) ?next)
          case cc1 =>
            intro j u hj
            have hb := heap_alloc_new w3 (.cells #[.int .u64 y, .int .i64 m] 75)
            have hc := blk_cell hb j
            rw [Addr.add_lit, Nat.zero_add, hc]
            simpa using hj
          case next =>
            intro v4 w4 hs4 hf4 hv4
            have hb4 : Below w.heap.size w w4 := (hb3.alloc hb3.size _).trans (hf4.below (by have := hb3.size; simp; omega) (fun b hb => hsb b hb))
            have hsb4 : ∀ b, v4.ownBlock = some b → w.heap.size ≤ b := fun b hb => by
              rcases hv4 with h | h
              · exact hsb b (h ▸ hb)
              · rw [h] at hb; simp at hb; have := hb3.size; omega
            have hlen4 : n + 1 ≤ 1000 := by
              have h1 := HN.out
              have h2 : G.length ≤ (R.L.take i).length := by rw [← hG.out]; exact List.length_filter_le _ _
              have h3 : (R.L.take i).length ≤ i := by simp; omega
              omega
            have hs5 : Sl w4 75 2 v4 (n + 1) (prs .u64 (G ++ [(y, m)])) := by rw [prs_app]; exact hs4
            clear hs3 hf4 hv4 hs4 hn3 e0 e1 hb3
            go_wp2_with fail
            go_roundg g
            case measure => omega
            case rel =>
              refine ⟨i + 1, by omega, by go_num, u, n + 1, G ++ [(y, m)], rfl, Lib.hid ?_, Lib.hid (by
                rw [List.take_add_one, HY.out, List.filter_append, hG.out]
                simp [hm]), by rw [List.length_append, HN.out]; rfl, hlen4, hs5, hsb4, hb4⟩
              have hne : i ≠ k := fun e => by
                have := HY.out
                rw [e, HK.out] at this
                simp at this
                exact hm this.2.symm
              rw [hu.out]
              by_cases hki : k < i
              · rw [if_pos hki, if_pos (by omega)]
              · rw [if_neg hki, if_neg (by omega)]
  case rest =>
    obtain ⟨n, rfl, hs, hsb, hn, hb⟩ := hcut
    have h1 := h.keep (bel_fr0 hb) (fun _ _ h => h)
    clear c4 c1
    have c1 := blk_cell h1.blk 1
    have f1 := blk_free h1.blk 1
    simp at c1
    obtain ⟨ao2, cap2, rfl, _, _⟩ := hs.shape
    have hp1 : RPost q (.slice ao R.L.length cap) mv { R with L := cutA R.L k } w (wc.setCell ⟨q, 1, none⟩ (.slice ao2 n cap2)) := by
      subst hn
      exact h.put_L ((bel_fr0 hb).mono fun _ h => h.elim) hs (.inr hsb)
    obtain ⟨l2, m2, hb2, hf2, hg2⟩ := id hp1
    clear hn
    go_wp2_with fail
    refine (RStop_any q l2 m2 _ _ hb2).mono ?_
    rintro e w2 ⟨rfl, hp⟩
    go_wp2_with fail
    go_ret2
    refine ⟨rfl, ?_⟩
    obtain ⟨l3, m3, hb3, hf3, hg3⟩ := hp
    refine ⟨l3, m3, hb3, hf2.trans' hf3 hg2, fun k hk => ?_⟩
    rcases hg3 k hk with x | x
    · exact hg2 k x
    · exact .inr (Nat.le_trans hf2.size x)
end Go.Proofs.Ytgijaehmffojhaa
