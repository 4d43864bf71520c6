/- slices.Clone, slices.Delete; the queue's Drop and Pick. -/
import Derived.Test.YtjdinopiipmojaaNext
import Derived.Test.YtjdinopiipmojaaDel
namespace Go.Proofs.Ytjdinopiipmojaa
open Go.RowKit

/-- slices.Clone: a new slice with the same elements. -/
theorem Clone_any (v : Value) (n : Nat) (l : List Int) (w : World) (h : Rd w 1 v n (i64s l)) (hn : n ≤ 1000) :
    Calls Try.prog 25 #[v] w fun e w' => ∃ v', e = .returned v' ∧ Sl w' 2 1 v' n (i64s l) ∧ Fr (fun _ => False) w w' ∧ ∀ k, v'.ownBlock = some k → w.heap.size ≤ k := by
  obtain ⟨i0, hinf, hz0, hz1, hz2⟩ := info_parts Try.info2
  obtain ⟨ao, cap, rfl, h0, h2, h3, h4, h5⟩ := id h
  have hnil := fun (w : World) (a : Option Addr) (n c n' c' : Nat) => Lib.run_eql_slice_nil (P := Try.prog) w 39 2 a n c n' c' Try.underlying39
  cases ao with
  | none =>
    obtain rfl := h4 rfl
    obtain rfl : n = 0 := by omega
    have hx : i64s l = [] := List.eq_nil_of_length_eq_zero (by simpa using h0)
    rw [hx]
    clear h h0 h5 hx
    go_enter Try.func25, Try.ntmps25
    go_wp2
    go_ret
    exact ⟨_, rfl, Sl.nil _ _ _, Fr.refl _ _, by simp [Value.ownBlock]⟩
  | some a =>
    clear h0 h4 h5
    go_enter Try.func25, Try.ntmps25
    go_wp2_with (at_builtin; go_loud (refine wpList_append_sl_rd rfl (.tmp 5) (.tmp 6) 39 rfl 2 i0 (.int .i64 0) 1 8 Try.underlying39 hinf hz0 hz1 hz2 rfl (by decide) (.slice (some ⟨w.heap.size, 0, none⟩) 0 0) 0 [] rfl ?own _ n (i64s l) rfl (h.below (Nat.le_refl _) ((Below.refl _ _).alloc (Nat.le_refl _) _)) (i64s_one l) ?b1 ?b2 ?next))
    case own => exact ⟨_, 0, rfl, by simp, by omega, by unfold maxLen; omega, .inr ⟨w.heap.size, 0, #[], rfl, heap_alloc_new w _, by simp, by simp⟩⟩
    case b1 => unfold maxLen; omega
    case b2 => omega
    case next =>
      intro v' w1 hs hf hv
      go_wp2
      go_ret
      have hf' : Fr (fun _ => False) w w1 := ((Fr.refl (fun _ => False) w).alloc (.cells #[] 2)).trans' hf (fun i hi => by simp [Value.ownBlock] at hi; exact .inr (by omega))
      refine ⟨v', rfl, by simpa using hs, hf', fun k hk => ?_⟩
      rcases hv with hv | hv
      · rw [hv] at hk; simp [Value.ownBlock] at hk; omega
      · rw [hv] at hk; simp at hk; omega


theorem Try.zero2 (w : World) : (zeroValue 2).run Try.prog w = .ok (.int .i64 0) w := by kernel_rfl

def DelPost (n : Nat) (l : List Int) (k : Nat) (v : Value) (w : World) (e : Ending) (w' : World) : Prop :=
  ∃ v', e = .returned v' ∧ Sl w' 2 1 v' (n - 1) (i64s (l.take k ++ l.drop (k + 1))) ∧ Fr (fun q => v.ownBlock = some q) w w' ∧ v'.ownBlock = v.ownBlock

set_option maxHeartbeats 1600000 in
set_option maxRecDepth 1000000 in
/-- slices.Delete(s, k, k + 1). -/
theorem Delete_any (v : Value) (n k : Nat) (l : List Int) (w : World) (hs : Sl w 2 1 v n (i64s l)) (hk : k < n) (hn : n ≤ 1000) :
    Calls Try.prog 30 #[v, .int .i64 k, .int .i64 ((k : Int) + 1)] w fun e w' => DelPost n l k v w e w' := by
  obtain ⟨i0, hinf, hz0, hz1, hz2⟩ := info_parts Try.info2
  obtain ⟨g, off, cap, cur, rfl, hcap, hmax, hg, hfit, htake⟩ := hs.blk (by omega)
  unfold maxLen at hmax
  obtain ⟨mv, hmv⟩ : ∃ mv, ((cur.toList.drop off).take n).drop (k + 1) = mv := ⟨_, rfl⟩
  have hml : mv.length = n - (k + 1) := by subst hmv; simp; omega
  have hmc : ∀ j u, mv[j]? = some u → w.cell? ⟨g, off + (k + 1) + j, none⟩ = some u := by
    intro j u hu
    have hj := (List.getElem?_eq_some_iff.1 hu).1
    rw [blk_cell hg, ← hu, ← hmv, List.getElem?_drop, List.getElem?_take, if_pos (by omega), List.getElem?_drop]
    simp
    congr 1
    omega
  obtain ⟨A, hA, hnews⟩ : ∃ A : Addr, (if cap = k + 1 then some (⟨g, off, none⟩ : Addr) else some ⟨g, off + (k + 1), none⟩) = some A ∧ Hid (∀ j u, mv[j]? = some u → w.drew.cell? (A.add j) = some u) := by
    by_cases h : cap = k + 1
    · refine ⟨⟨g, off, none⟩, by simp [h], fun j u hu => ?_⟩
      have hj := (List.getElem?_eq_some_iff.1 hu).1
      omega
    · refine ⟨⟨g, off + (k + 1), none⟩, by simp [h], fun j u hu => ?_⟩
      rw [Addr.add_lit]
      exact hmc j u hu
  have hone : ∀ u ∈ mv, u.oneCell' = true := by
    intro u hu
    have : u ∈ i64s l := by rw [← htake]; subst hmv; simp at hu ⊢; exact List.mem_of_mem_drop hu
    exact i64s_one l u this
  have s1 : Hid (mv.length = (n - (k + 1)) * 1) := by rw [Nat.mul_one]; exact hml
  have s2 := Lib.hid hone
  have s3 : Hid (∀ j, j < mv.length → (w.drew.cell? ⟨g, off + k * 1 + j, none⟩).isSome = true ∧ w.drew.frozen? ⟨g, off + k * 1 + j, none⟩ = false) := by
    intro j hj
    refine ⟨?_, blk_free (w := w) hg _⟩
    show (w.cell? _).isSome = true
    rw [blk_cell hg, Array.getElem?_eq_getElem (by omega)]
    rfl
  have hkc : k ≤ cap := by omega
  have hwr : IntKind.i64.wrap ((k : Int) + 1) = (k : Int) + 1 := by rw [IntKind.wrap_i64]; omega
  have hp0 : (0 : Int) ≤ (k : Int) + 1 := by omega
  have hp1 : (k : Int) + 1 ≤ (n : Int) := by omega
  have hp2 : ((k : Int) + 1).toNat = k + 1 := by omega
  have hne : ((k : Int) == (k : Int) + 1) = false := by simp; omega
  have HG := Lib.hid hg
  have HT := Lib.hid htake
  have HM := Lib.hid hmv
  have HL := Lib.hid hml
  clear hmc hone hg htake hmv hml hs
  go_enter Try.func30, Try.ntmps30
  go_wp2_with fail
  go_region_law (refine step_append_room rfl (.tmp 22) (.tmp 25) 39 rfl 2 i0 1 Try.underlying39 hinf hz1 g off k cap (by simp [Act.eval, Act.put]) A (n - (k + 1)) (cap - (k + 1)) mv (by simp [Act.eval, Act.put]) s1.out hnews.out s2.out (by omega) s3.out ?_)
  obtain ⟨w1, hw1⟩ : ∃ w1, w.drew.setCells g (off + k) mv = w1 := ⟨_, rfl⟩
  have hg1 : w1.heap[g]? = some (.cells (cur.toList.take (off + k) ++ mv ++ cur.toList.drop (off + k + mv.length)).toArray 2 (0, 0)) := by
    subst hw1
    exact blk_setCells mv (off + k) w.drew cur HG.out (by have := HL.out; omega)
  have hf1 : Fr (fun q => (Value.slice (some ⟨g, off, none⟩) n cap).ownBlock = some q) w w1 := by
    subst hw1
    exact fr_setCells mv _ ((Fr.refl _ w).drew) (Or.inl rfl)
  rw [hw1]
  clear hw1 s1 s2 s3 hnews
  go_simp
  have hcl : (Builtin.clear_ #[39] 0 #[.slice (some ⟨g, off + (n - 1), none⟩) (n - (n - 1)) (cap - (n - 1))]).run Try.prog w1 = .ok (.tuple #[]) (w1.setCells g (off + (n - 1)) [.int .i64 0]) := by
    rw [show n - (n - 1) = 1 by omega]
    exact Lib.run_clear_slice (P := Try.prog) w1 39 2 0 (.int .i64 0) Try.underlying39 Try.zero2 rfl rfl g (off + (n - 1)) 1 _ (by omega)
      (by intro j hj; rw [blk_cell hg1]; simp; have := HL.out; omega) (by intro j _; exact blk_free hg1 _)
  have hnn : k + (n - (k + 1)) = n - 1 := by omega
  rw [hnn]
  clear hnn
  go_wp2_with fail
  go_ret
  refine ⟨_, rfl, ?_, fr_setCells _ _ hf1 (Or.inl rfl), rfl⟩
  have hlen := HL.out
  have hcl : cur.toList.length = cur.size := by simp
  have hg2 := blk_setCells [.int .i64 0] (off + (n - 1)) w1 _ hg1 (by simp; omega)
  have hT := HT.out
  rw [Nat.mul_one] at hT
  refine ⟨_, _, rfl, ?_, by omega, by unfold maxLen; omega, .inr ⟨g, off, _, rfl, hg2, ?_, ?_⟩⟩
  · have := congrArg List.length hT
    simp [i64s] at this ⊢
    omega
  · simp; omega
  · have hd := del_cells cur.toList off n k (.int .i64 0) hk (by simp; omega)
    rw [HM.out] at hd
    rw [hlen, Nat.mul_one]
    simp only [List.length_singleton]
    rw [hd, hT, ← HM.out, hT]
    simp [i64s]

theorem Drop_no (p bm : Nat) (vs : Int → Value) (c : Int) (L : Int → List Int) (pid : Int) (w : World) (hq : Qb w p bm vs c L) (h : ∀ j, 1 ≤ j → j ≤ 4 → pid ∉ L j) :
    Calls Try.prog 22 #[.pointer (some ⟨p, 0, none⟩), .int .i64 pid] w fun e w' => e = .returned (.int .i64 250) ∧ w' = w := by
  go_enter Try.func22, Try.ntmps22
  go_wp2_with fail
  refine (find_any p bm vs c L pid _ hq).mono ?_
  rintro e w1 ⟨k, i, rfl, hf, rfl⟩
  have hk : k = 0 := by
    rcases hf with ⟨h, _⟩ | ⟨h1, h4, h5, h6⟩
    · exact h
    · exact absurd (List.mem_of_getElem? h6) (h k h1 h4)
  subst hk
  go_wp2_with fail
  go_ret
  exact ⟨rfl, rfl⟩

/-- What is left of a list of which one is taken out. -/
def cutAt (l : List Int) (i : Nat) : List Int := l.take i ++ l.drop (i + 1)

def DropPost (p bm : Nat) (vs : Int → Value) (c : Int) (L : Int → List Int) (pid : Int) (w : World) (e : Ending) (w' : World) : Prop :=
  e = .returned (.int .i64 0) ∧ ∃ (k : Int) (i : Nat), 1 ≤ k ∧ k ≤ 4 ∧ (L k)[i]? = some pid ∧ QPost p bm vs c (setL L k (cutAt (L k) i)) w w'

set_option maxHeartbeats 1600000 in
theorem Drop_yes (p bm : Nat) (vs : Int → Value) (c : Int) (L : Int → List Int) (pid : Int) (w : World) (hq : Qb w p bm vs c L) (h : ∃ j, 1 ≤ j ∧ j ≤ 4 ∧ pid ∈ L j) (hlen : sumL L 4 ≤ 1000) :
    Calls Try.prog 22 #[.pointer (some ⟨p, 0, none⟩), .int .i64 pid] w fun e w' => DropPost p bm vs c L pid w e w' := by
  obtain ⟨j, j1, j4, hj⟩ := h
  have c0 := blk_cell hq.blk 0
  simp at c0
  go_enter Try.func22, Try.ntmps22
  go_wp2_with fail
  refine (find_any p bm vs c L pid _ hq).mono ?_
  rintro e w1 ⟨k, i', rfl, hf, rfl⟩
  obtain ⟨k1, k4, i, rfl, hki⟩ : 1 ≤ k ∧ k ≤ 4 ∧ ∃ i : Nat, i' = i ∧ (L k)[i]? = some pid := by
    rcases hf with ⟨_, _, h⟩ | ⟨h1, h4, h5, h6⟩
    · exact absurd hj (h j j1 j4)
    · exact ⟨h1, h4, i'.toNat, by omega, h6⟩
  clear hf
  have hil := (List.getElem?_eq_some_iff.1 hki).1
  have hl : (L k).length ≤ 1000 := by
    have : k = 1 ∨ k = 2 ∨ k = 3 ∨ k = 4 := by omega
    simp [sumL] at hlen
    rcases this with rfl | rfl | rfl | rfl <;> omega
  have HK := Lib.hid hki
  clear hki hj j1 j4
  have hk0 : (k == 0) = false := by simp; omega
  go_upto_region 6 with fail
  refine wp_region_ord (Ord.take 0 (.take 1 (.take 2 (.take 3 (.take 4 (.take 5 (.take 6 (.take 7 (.take 8 (.take 9 (.take 12 (.take 13 (.take 14 (.alone 10 (.alone 11 (.alone 15 (.alone 16 .done)))))))))))))))))
    (fun W => W.cell? ⟨p, 0, none⟩ = some (.map (some bm))) (by kernel_rfl) (by kernel_rfl) (by kernel_rfl) (fun c a d v w h => by cases d <;> exact h) c0 ?_
  refine ord_take (o := ⟨some 17, _, _, _, _, none⟩) _ rfl (by rfl) (fun W hW => by (go_simp; with_reducible rfl)) ?_
  simp only [Act.put, List.setIfInBounds_toArray, List.set_cons_zero, List.set_cons_succ]
  refine ord_take (o := ⟨some 18, _, _, _, _, none⟩) _ rfl (by rfl) (fun W hW => by (go_simp; with_reducible rfl)) ?_
  simp only [Act.put, List.setIfInBounds_toArray, List.set_cons_zero, List.set_cons_succ]
  refine ord_take (o := ⟨some 19, _, _, _, _, none⟩) _ rfl (by rfl) (fun W hW => by (go_simp; with_reducible rfl)) ?_
  simp only [Act.put, List.setIfInBounds_toArray, List.set_cons_zero, List.set_cons_succ]
  refine ord_take (o := ⟨some 20, _, _, _, _, none⟩) _ rfl (by rfl) (fun W hW => by (go_simp; with_reducible rfl)) ?_
  simp only [Act.put, List.setIfInBounds_toArray, List.set_cons_zero, List.set_cons_succ]
  refine ord_take (o := ⟨some 21, _, _, _, _, none⟩) _ rfl (by rfl) (fun W hW => by (go_simp; with_reducible rfl)) ?_
  simp only [Act.put, List.setIfInBounds_toArray, List.set_cons_zero, List.set_cons_succ]
  refine ord_take (o := ⟨some 22, _, _, _, _, none⟩) _ rfl (by rfl) (fun W hW => by (go_simp; with_reducible rfl)) ?_
  simp only [Act.put, List.setIfInBounds_toArray, List.set_cons_zero, List.set_cons_succ]
  refine ord_take (o := ⟨some 23, _, _, _, _, none⟩) _ rfl (by rfl) (fun W hW => by (go_simp; with_reducible rfl)) ?_
  simp only [Act.put, List.setIfInBounds_toArray, List.set_cons_zero, List.set_cons_succ]
  refine ord_take (o := ⟨some 24, _, _, _, _, none⟩) _ rfl (by rfl) (fun W hW => by (go_simp; with_reducible rfl)) ?_
  simp only [Act.put, List.setIfInBounds_toArray, List.set_cons_zero, List.set_cons_succ]
  refine ord_take (o := ⟨some 25, _, _, _, _, none⟩) _ rfl (by rfl) (fun W hW => by (go_simp; with_reducible rfl)) ?_
  simp only [Act.put, List.setIfInBounds_toArray, List.set_cons_zero, List.set_cons_succ]
  refine ord_take (o := ⟨some 26, _, _, _, _, none⟩) _ rfl (by rfl) (fun W hW => by (go_simp; with_reducible rfl)) ?_
  simp only [Act.put, List.setIfInBounds_toArray, List.set_cons_zero, List.set_cons_succ]
  refine ord_take (o := ⟨some 29, _, _, _, _, none⟩) _ rfl (by rfl) (fun W hW => by (go_simp; with_reducible rfl)) ?_
  simp only [Act.put, List.setIfInBounds_toArray, List.set_cons_zero, List.set_cons_succ]
  refine ord_take (o := ⟨some 30, _, _, _, _, none⟩) _ rfl (by rfl) (fun W hW => by (go_simp; with_reducible rfl)) ?_
  simp only [Act.put, List.setIfInBounds_toArray, List.set_cons_zero, List.set_cons_succ]
  refine ord_take (o := ⟨some 31, _, _, _, _, none⟩) _ rfl (by rfl) (fun W hW => by (go_simp; with_reducible rfl)) ?_
  simp only [Act.put, List.setIfInBounds_toArray, List.set_cons_zero, List.set_cons_succ]
  have hq2 : Qb w1.drew p bm vs c L := hq.drewN 1
  refine ord_alone (o := ⟨some 27, _, _, _, _, none⟩) rfl (by rfl) (fun K hK => ?_)
  refine wp_look (.tmp 25) (.tmp 26) rfl rfl k rfl k1 k4 hq2.mp ?_
  simp only [Act.put, List.setIfInBounds_toArray, List.set_cons_zero, List.set_cons_succ]
  refine hK _ _ c0 ?_
  clear hK K
  refine ord_alone (o := ⟨some 28, _, _, _, _, none⟩) rfl (by rfl) (fun K hK => ?_)
  go_simp
  refine (Clone_any (vs k) (L k).length (L k) _ (hq2.own k k1 k4).rd hl).mono ?_
  rintro e w2 ⟨v2, rfl, hs2, hf2, hv2⟩
  have hq3 : Qb w2 p bm vs c L := hq2.keep hf2 (fun _ _ h => h)
  have c2 := blk_cell hq3.blk 0
  simp at c2
  refine hK _ _ c2 ?_
  clear hK K
  refine ord_alone (o := ⟨some 32, _, _, _, _, none⟩) rfl (by rfl) (fun K hK => ?_)
  go_simp
  rw [show IntKind.i64.wrap ((i : Int) + 1) = (i : Int) + 1 by rw [IntKind.wrap_i64]; omega]
  refine (Delete_any v2 (L k).length i (L k) _ hs2 hil hl).mono ?_
  rintro e w3 ⟨v3, rfl, hs3, hf3, hv3⟩
  have hn2 : ∀ b, bf p bm vs b → v2.ownBlock ≠ some b := fun b hb e => by
    have h1 := hv2 b e
    have h2 := hq2.lt b hb
    omega
  have hq4 : Qb w3 p bm vs c L := hq3.keep hf3 (fun b hb e => hn2 b hb e)
  have c3 := blk_cell hq4.blk 0
  simp at c3
  refine hK _ _ c3 ?_
  clear hK K
  refine ord_alone (o := ⟨none, _, _, _, _, none⟩) rfl (by rfl) (fun K hK => ?_)
  refine wp_store (.tmp 20) (.tmp 21) (.tmp 32) rfl rfl k rfl v3 rfl k1 k4 hq4.mp ?_
  intro w4 hmp4 hg4
  have hf4 : Fr (fun b => b = bm) w3 w4 := (Fr.refl _ _).grown hg4 (fun b hb => by cases hb; exact .inl rfl)
  have hfr : Fr (fun _ => False) w1.drew w3 := hf2.trans' hf3 (fun b hb => .inr (hv2 b hb))
  have hpost := hq2.put k1 k4 (hfr.mono fun _ h => h.elim) (l := cutAt (L k) i) (v' := v3) (by
      have e : (cutAt (L k) i).length = (L k).length - 1 := by simp [cutAt]; omega
      rw [e]; exact hs3) (.inr fun b hb => hv2 b (by rw [← hv3]; exact hb)) hmp4 hf4
  have hp4 := hf4.at hq4.blk hq4.ne
  have c4 := blk_cell hp4 0
  simp at c4
  simp only [Act.put]
  refine hK _ _ c4 ?_
  have HQ := Lib.hid hpost
  clear hK K hpost hq2 hq3 hq4 hs2 hs3 hf2 hf3 hf4 hfr hmp4 hg4
  refine ord_done ?_
  go_wp2_with fail
  go_ret
  exact ⟨rfl, k, i, k1, k4, HK.out, HQ.out.from ((Fr.refl (fun _ => False) w1).drewN 1) (fun _ h => h.elim)⟩

theorem Pick_no (p bm : Nat) (vs : Int → Value) (c : Int) (L : Int → List Int) (pid : Int) (w : World) (hq : Qb w p bm vs c L) (h : ∀ j, 1 ≤ j → j ≤ 4 → pid ∉ L j) :
    Calls Try.prog 12 #[.pointer (some ⟨p, 0, none⟩), .int .i64 pid] w fun e w' => e = .returned (.int .i64 250) ∧ w' = w := by
  go_enter Try.func12, Try.ntmps12
  go_wp2_with fail
  refine (Drop_no p bm vs c L pid _ hq h).mono ?_
  rintro e w1 ⟨rfl, rfl⟩
  go_wp2_with fail
  go_ret
  exact ⟨rfl, rfl⟩

theorem Pick_yes (p bm : Nat) (vs : Int → Value) (c : Int) (L : Int → List Int) (pid : Int) (w : World) (hq : Qb w p bm vs c L) (h : ∃ j, 1 ≤ j ∧ j ≤ 4 ∧ pid ∈ L j) (hlen : sumL L 4 ≤ 1000) :
    Calls Try.prog 12 #[.pointer (some ⟨p, 0, none⟩), .int .i64 pid] w fun e w' => DropPost p bm vs c L pid w e w' := by
  go_enter Try.func12, Try.ntmps12
  go_wp2_with fail
  refine (Drop_yes p bm vs c L pid _ hq h hlen).mono ?_
  rintro e w1 ⟨rfl, hp⟩
  go_wp2_with fail
  go_ret
  exact ⟨rfl, hp⟩
end Go.Proofs.Ytjdinopiipmojaa
