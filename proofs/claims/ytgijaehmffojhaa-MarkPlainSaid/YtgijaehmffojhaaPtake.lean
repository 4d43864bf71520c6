/- Take: the message that was examined last goes out of the mailbox. -/
import Derived.Test.YtgijaehmffojhaaPbox
import Derived.Test.YtgijaehmffojhaaDel
import Derived.StillTailTactics
namespace Go.Proofs.Ytgijaehmffojhaa.Plain
open Go.RowKit

theorem zero26 (w : World) : (zeroValue 26).run Try.prog w = .ok (.int .u64 0) w := by kernel_rfl

def DelPost (n : Nat) (l : List Int) (k : Nat) (v : Value) (w : World) (e : Ending) (w' : World) : Prop :=
  ∃ v', e = .returned v' ∧ Sl w' 26 1 v' (n - 1) (u64s (l.take k ++ l.drop (k + 1))) ∧ Fr (fun q => v.ownBlock = some q) w w' ∧ v'.ownBlock = v.ownBlock

set_option maxHeartbeats 1600000 in
set_option maxRecDepth 1000000 in
/-- slices.Delete(s, k, k + 1). -/
theorem Delete_any (v : Value) (n k : Nat) (l : List Int) (w : World) (hs : Sl w 26 1 v n (u64s l)) (hk : k < n) (hn : n ≤ 1000) :
    Calls Try.prog 61 #[v, .int .i64 k, .int .i64 ((k : Int) + 1)] w fun e w' => DelPost n l k v w e w' := by
  obtain ⟨i0, hinf, hz0, hz1, hz2⟩ := info_parts Try.info26
  obtain ⟨g, off, cap, cur, rfl, hcap, hmax, hg, hfit, htake⟩ := hs.blk (by omega)
  unfold maxLen at hmax
  obtain ⟨mv, hmv⟩ : ∃ mv, ((cur.toList.drop off).take n).drop (k + 1) = mv := ⟨_, rfl⟩
  have hml : mv.length = n - (k + 1) := by subst hmv; simp; omega
  have hmc : ∀ j u, mv[j]? = some u → w.cell? ⟨g, off + (k + 1) + j, none⟩ = some u := by
    intro j u hu
    have hj := (List.getElem?_eq_some_iff.1 hu).1
    rw [blk_cell hg, ← hu, ← hmv, List.getElem?_drop, List.getElem?_take, if_pos (by omega), List.getElem?_drop]
    simp
    congr 1
    omega
  obtain ⟨A, hA, hnews⟩ : ∃ A : Addr, (if cap = k + 1 then some (⟨g, off, none⟩ : Addr) else some ⟨g, off + (k + 1), none⟩) = some A ∧ Hid (∀ j u, mv[j]? = some u → w.drew.cell? (A.add j) = some u) := by
    by_cases h : cap = k + 1
    · refine ⟨⟨g, off, none⟩, by simp [h], fun j u hu => ?_⟩
      have hj := (List.getElem?_eq_some_iff.1 hu).1
      omega
    · refine ⟨⟨g, off + (k + 1), none⟩, by simp [h], fun j u hu => ?_⟩
      rw [Addr.add_lit]
      exact hmc j u hu
  have hone : ∀ u ∈ mv, u.oneCell' = true := by
    intro u hu
    have : u ∈ u64s l := by rw [← htake]; subst hmv; simp at hu ⊢; exact List.mem_of_mem_drop hu
    exact u64s_one l u this
  have s1 : Hid (mv.length = (n - (k + 1)) * 1) := by rw [Nat.mul_one]; exact hml
  have s2 := Lib.hid hone
  have s3 : Hid (∀ j, j < mv.length → (w.drew.cell? ⟨g, off + k * 1 + j, none⟩).isSome = true ∧ w.drew.frozen? ⟨g, off + k * 1 + j, none⟩ = false) := by
    intro j hj
    refine ⟨?_, blk_free (w := w) hg _⟩
    show (w.cell? _).isSome = true
    rw [blk_cell hg, Array.getElem?_eq_getElem (by omega)]
    rfl
  have hkc : k ≤ cap := by omega
  have hwr : IntKind.i64.wrap ((k : Int) + 1) = (k : Int) + 1 := by rw [IntKind.wrap_i64]; omega
  have hp0 : (0 : Int) ≤ (k : Int) + 1 := by omega
  have hp1 : (k : Int) + 1 ≤ (n : Int) := by omega
  have hp2 : ((k : Int) + 1).toNat = k + 1 := by omega
  have hne : ((k : Int) == (k : Int) + 1) = false := by simp; omega
  have HG := Lib.hid hg
  have HT := Lib.hid htake
  have HM := Lib.hid hmv
  have HL := Lib.hid hml
  clear hmc hone hg htake hmv hml hs
  go_enter Try.func61, Try.ntmps61
  go_wp2_with fail
  go_region_law (refine step_append_room rfl (.tmp 22) (.tmp 25) 22 rfl 26 i0 1 Try.underlying22 hinf hz1 g off k cap (by simp [Act.eval, Act.put]) A (n - (k + 1)) (cap - (k + 1)) mv (by simp [Act.eval, Act.put]) s1.out hnews.out s2.out (by omega) s3.out ?_)
  obtain ⟨w1, hw1⟩ : ∃ w1, w.drew.setCells g (off + k) mv = w1 := ⟨_, rfl⟩
  have hg1 : w1.heap[g]? = some (.cells (cur.toList.take (off + k) ++ mv ++ cur.toList.drop (off + k + mv.length)).toArray 26 (0, 0)) := by
    subst hw1
    exact blk_setCells mv (off + k) w.drew cur HG.out (by have := HL.out; omega)
  have hf1 : Fr (fun q => (Value.slice (some ⟨g, off, none⟩) n cap).ownBlock = some q) w w1 := by
    subst hw1
    exact fr_setCells mv _ ((Fr.refl _ w).drew) (Or.inl rfl)
  rw [hw1]
  clear hw1 s1 s2 s3 hnews
  go_simp
  have hcl : (Builtin.clear_ #[22] 0 #[.slice (some ⟨g, off + (n - 1), none⟩) (n - (n - 1)) (cap - (n - 1))]).run Try.prog w1 = .ok (.tuple #[]) (w1.setCells g (off + (n - 1)) [.int .u64 0]) := by
    rw [show n - (n - 1) = 1 by omega]
    exact Lib.run_clear_slice (P := Try.prog) w1 22 26 0 (.int .u64 0) Try.underlying22 zero26 rfl rfl g (off + (n - 1)) 1 _ (by omega)
      (by intro j hj; rw [blk_cell hg1]; simp; have := HL.out; omega) (by intro j _; exact blk_free hg1 _)
  have hnn : k + (n - (k + 1)) = n - 1 := by omega
  rw [hnn]
  clear hnn
  go_wp2_with fail
  go_ret
  refine ⟨_, rfl, ?_, fr_setCells _ _ hf1 (Or.inl rfl), rfl⟩
  have hlen := HL.out
  have hcl : cur.toList.length = cur.size := by simp
  have hg2 := blk_setCells [.int .u64 0] (off + (n - 1)) w1 _ hg1 (by simp; omega)
  have hT := HT.out
  rw [Nat.mul_one] at hT
  refine ⟨_, _, rfl, ?_, by omega, by unfold maxLen; omega, .inr ⟨g, off, _, rfl, hg2, ?_, ?_⟩⟩
  · have := congrArg List.length hT
    simp [u64s] at this ⊢
    omega
  · simp; omega
  · have hd := del_cells cur.toList off n k (.int .u64 0) hk (by simp; omega)
    rw [HM.out] at hd
    rw [hlen, Nat.mul_one]
    simp only [List.length_singleton]
    rw [hd, hT, ← HM.out, hT]
    simp [u64s]

set_option maxHeartbeats 1600000 in
theorem out_any (p : Nat) (room : Int) (at_ : Nat) (ex : Int) (l : List Int) (sl : Value) (k : Nat) (w : World) (hb : Box w p room at_ ex l sl) (hk : k < l.length) (hl : l.length ≤ 1000) :
    Calls Try.prog 56 #[.pointer (some ⟨p, 1, none⟩), .int .i64 k] w fun e w' => e = .returned (.tuple #[]) ∧ BoxPost p room at_ ex (l.take k ++ l.drop (k + 1)) sl w w' := by
  obtain ⟨g, off, cap, cur, rfl, hcap, hmax, hg, hfit, htake⟩ := hb.own.blk (by omega)
  have hne := hb.own.ne hb.blk (by decide)
  have c1 := blk_cell hb.blk 1
  simp at c1
  go_enter Try.func56, Try.ntmps56
  go_wp2_with fail
  refine (Delete_any _ _ k l _ hb.own hk hl).mono ?_
  rintro e w1 ⟨v', rfl, hs, hf, hv⟩
  have hblk := hf.at hb.blk (fun e => hne p e rfl)
  have hlen : (l.take k ++ l.drop (k + 1)).length = l.length - 1 := by simp; omega
  obtain ⟨ao', cap', rfl, _, _⟩ := hs.shape
  have HF : Hid (Fr (bf p (Value.slice (some ⟨g, off, none⟩) l.length cap)) w w1) := hf.mono fun q hq => Or.inr hq
  have c1' := blk_cell hblk 1
  have f1' := blk_free hblk 1
  simp at c1'
  have HV := Lib.hid hv
  have HN := Lib.hid hlen
  clear c1 hne hf hv hlen hg htake
  go_wp2_with fail
  go_end0
  refine ⟨rfl, _, ⟨by rw [blk_set hblk]; rfl, ?_⟩, HF.out.setCell (Or.inl (Or.inl rfl)) _, fun q hq => .inl ?_⟩
  · have := hs.set_other (a := ⟨p, 1, none⟩) (.slice ao' (l.length - 1) cap') (hs.ne hblk (by decide))
    rw [HN.out]
    exact this
  · rcases hq with rfl | hq
    · exact .inl rfl
    · exact .inr (HV.out ▸ hq)

set_option maxHeartbeats 800000 in
theorem Take_none (p : Nat) (room : Int) (ex : Int) (l : List Int) (sl : Value) (w : World) (hb : Box w p room 0 ex l sl) :
    Calls Try.prog 35 #[.pointer (some ⟨p, 0, none⟩)] w fun e w' => e = .returned (.tuple #[.int .u64 0, .int .i64 111]) ∧ w = w' := by
  have c2 := blk_cell hb.blk 2
  simp at c2
  go_enter Try.func35, Try.ntmps35
  go_wp2
  go_ret2
  exact ⟨rfl, rfl⟩

set_option maxHeartbeats 1600000 in
theorem Take_some (p : Nat) (room : Int) (k : Nat) (ex : Int) (l : List Int) (sl : Value) (w : World) (hb : Box w p room (k + 1) ex l sl) (m : Int) (hm : l[k]? = some m) (hl : l.length ≤ 1000) :
    Calls Try.prog 35 #[.pointer (some ⟨p, 0, none⟩)] w fun e w' => e = .returned (.tuple #[.int .u64 m, .int .i64 0]) ∧ BoxPost p room 0 ex (l.take k ++ l.drop (k + 1)) sl w w' := by
  have hk : k < l.length := (List.getElem?_eq_some_iff.1 hm).1
  obtain ⟨g, off, cap, cur, rfl, hcap, hmax, hg, hfit, htake⟩ := hb.own.blk (by omega)
  have c1 := blk_cell hb.blk 1
  have c2 := blk_cell hb.blk 2
  have hd := hb.own.cell k (by omega)
  rw [List.getElem?_map, hm] at hd
  simp at c1 c2 hd
  have h0 : (((k : Int) + 1) == 0) = false := by simp; omega
  have hwr : IntKind.i64.wrap ((k : Int) + 1 - 1) = k := by rw [show (k : Int) + 1 - 1 = k by omega]; exact IntWalk.i64_in _ (by omega)
  clear hm hg htake
  go_enter Try.func35, Try.ntmps35
  go_wp2_with fail
  go_quiet (fail)
  go_wp2_with fail
  refine wp_region_still_tail 8 (by kernel_rfl) (by kernel_rfl) ?_
  simp only [List.take_succ_cons, List.take_zero, List.drop_succ_cons, List.drop_zero]
  change wpStill _ _ ((w.drewN nq).drew) (fun a' => wpList _ _ _ _ a' ((w.drewN nq).drew)) _ _
  have hb1 : Box ((w.drewN nq).drew) p room (k + 1) ex l _ := hb.drewN (nq + 1)
  have hf1 : Fr (fun _ => False) w ((w.drewN nq).drew) := ((Fr.refl _ w).drewN nq).drew
  generalize (w.drewN nq).drew = w2 at hb1 hf1 ⊢
  clear c1 c2 hd
  have c2 := blk_cell hb1.blk 2
  simp at c2
  repeat still_step
  refine wpStill_nil ?_
  go_wp2_with fail
  refine (out_any p room _ ex l _ k _ hb1 hk hl).mono ?_
  rintro e w3 ⟨rfl, sl3, hb3, hf3, hg3⟩
  have c2 := blk_cell hb3.blk 2
  have f2 := blk_free hb3.blk 2
  simp at c2
  go_wp2_with fail
  go_ret2
  exact ⟨rfl, BoxPost.trans (hf1.mono (fun _ h => h.elim)) (fun _ hk => .inl hk) ⟨sl3, hb3.set 0, hf3.setCell (p := ⟨p, 2, none⟩) (Or.inl (Or.inl rfl)) _, hg3⟩⟩
end Go.Proofs.Ytgijaehmffojhaa.Plain
