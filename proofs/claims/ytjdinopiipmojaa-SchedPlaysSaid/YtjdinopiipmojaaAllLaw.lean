/- SchedAll: All is what Next of a copy tells. -/
import Derived.Test.YtjdinopiipmojaaSame
import Derived.StillTailTactics
namespace Go.Proofs.Ytjdinopiipmojaa
open Go.RowKit

/-- What is known of the cells of one call of the script. -/
def OpCells (xs : List Value) : Prop := ∃ k pid pr : Int, xs = [.int .i64 k, .int .i64 pid, .int .i64 pr]

set_option maxRecDepth 100000 in
set_option maxHeartbeats 3200000 in
theorem sall_walk (ao : Option Addr) (n cap : Nat) (xss : List (List Value)) (w : World) (hS : Rd w 3 (.slice ao n cap) n xss.flatten) (hl3 : ∀ xs ∈ xss, xs.length = 3) (hlen : xss.length = n)
    (hops : ∀ xs ∈ xss, OpCells xs) :
    Calls Try.prog 5 #[.slice ao n cap] w fun e w' => e = .returned (.bool true) ∧ Below w.heap.size w w' := by
  obtain ⟨B, hB⟩ : ∃ B, w.heap.size = B := ⟨_, rfl⟩
  obtain ⟨_, _, hv0, hc0, hm0⟩ := hS.shape
  simp at hv0
  obtain ⟨rfl, rfl⟩ := hv0
  unfold maxLen at hm0
  have HO := Lib.hid hops
  have HL := Lib.hid hl3
  have HN := Lib.hid hlen
  clear hops hl3 hlen
  go_enter Try.func5, Try.ntmps5
  go_wp2_with fail
  refine (New_any _).mono ?_
  rintro e w1 ⟨rfl, hq, hb⟩
  have h1 := QIn.new hq hb
  rw [hB] at h1 ⊢
  have hsz : w.heap.size ≤ B := by omega
  have HB := Lib.hid hB
  clear hq hb hB
  go_upto_block 0 with fail
  go_cut [] (fun wx => ∃ vs c L, QIn B w wx (B + 1) B vs c L ∧ 0 ≤ c ∧ c ≤ 8 ∧ sumL L 4 ≤ 64)
  case first =>
    go_wp2_with fail
    go_loopw [4] (fun s4 wr => ∃ k : Nat, k ≤ n ∧ s4 = .int .i64 k ∧ ∃ vs c L, QIn B w wr (B + 1) B vs c L ∧ 0 ≤ c ∧ c ≤ 8 ∧ sumL L 4 ≤ 64) (fun s4 _ => n - (intOf s4).toNat)
    case atStart => exact ⟨0, by omega, rfl, _, _, _, h1, by omega, by omega, by simp [sumL]⟩
    case round =>
      clear h1
      obtain ⟨k, hkn, rfl, vs, c, L, hq, c0, c8, hs⟩ := hrel
      by_cases hlt : k < n
      · obtain ⟨xs, hxs⟩ : ∃ xs, xss[k]? = some xs := ⟨xss[k]'(by have := HN.out; omega), List.getElem?_eq_getElem _⟩
        obtain ⟨op, pid, pr, rfl⟩ := HO.out xs (List.mem_of_getElem? hxs)
        obtain ⟨g, off, cap', hv, _, _, hcell⟩ := (hS.below hsz hq.below).at (by omega)
        simp at hv
        obtain ⟨rfl, rfl⟩ := hv
        have cs : ∀ j, j < 3 → wr.cell? ⟨g, off + k * 3 + j, none⟩ = [Value.int .i64 op, .int .i64 pid, .int .i64 pr][j]? := fun j hj => by
          rw [Nat.add_assoc, hcell (k * 3 + j) (by omega), flat_get xss HL.out k j _ hxs hj]
        have d0 := cs 0 (by omega)
        have d1 := cs 1 (by omega)
        have d2 := cs 2 (by omega)
        simp at d0 d1 d2
        clear cs hcell hxs
        by_cases ho : op = 0
        · subst ho
          go_wp2_with fail
          refine wp_region_still_tail 11 (by kernel_rfl) (by kernel_rfl) ?_
          simp only [List.take_succ_cons, List.take_zero, List.drop_succ_cons, List.drop_zero]
          change wpStill _ _ (wr.drew) (fun a' => wpList _ _ _ _ a' (wr.drew)) _ _
          have hq1 := hq.keep ((Fr.refl (fun _ => False) wr).drewN 1) (fun _ _ h => h) (fun _ h => h.elim)
          have e1 : wr.drew.cell? ⟨g, off + k * 3 + 1, none⟩ = _ := d1
          have e2 : wr.drew.cell? ⟨g, off + k * 3 + 2, none⟩ = _ := d2
          change QIn B w wr.drew (B + 1) B vs c L at hq1
          clear d0 d1 d2 hq
          generalize wr.drew = w2 at hq1 e1 e2 ⊢
          repeat still_step
          refine wpStill_nil ?_
          go_wp2_with fail
          refine (Add_any _ _ _ _ _ pid pr _ hq1.q hs).mono ?_
          rintro e w3 ⟨rfl, hp⟩
          obtain ⟨vs3, hq3⟩ := hq1.step hp
          have hs3 := addSays_sum (pid := pid) (pr := pr) hs
          clear hp hq1 hs
          go_wp2_with fail
          go_roundw
          case rel => exact ⟨k + 1, by omega, by go_num, _, _, _, hq3, c0, c8, hs3⟩
          case measure => simp [intOf]; omega
        · by_cases ho3 : op = 3
          · subst ho3
            go_wp2_with fail
            refine (Next_any hq c0 c8 hs).mono ?_
            rintro e w2 ⟨x, y, rfl, vs2, c2, L2, hq2, c02, c82, hs2⟩
            clear hq hs
            go_wp2_with fail
            go_roundw
            case rel => exact ⟨k + 1, by omega, by go_num, _, _, _, hq2, c02, c82, hs2⟩
            case measure => simp [intOf]; omega
          · go_wp2_with fail
            go_roundw
            case rel => exact ⟨k + 1, by omega, by go_num, _, _, _, hq, c0, c8, hs⟩
            case measure => simp [intOf]; omega
      · go_wp2_with fail
        go_meet
        case rel => exact ⟨_, _, _, hq, c0, c8, hs⟩
  case rest =>
    clear h1
    obtain ⟨vs, c, L, hq, c0, c8, hs⟩ := hcut
    obtain ⟨full, hfull⟩ : ∃ full, qrun (sumL L 4) L c = full := ⟨_, rfl⟩
    have hfl : full.length = sumL L 4 := by rw [← hfull]; exact qrun_length _ _ _ rfl
    have hct : cutTo 0 full = full := by unfold cutTo; rw [if_neg (by omega)]
    have HF := Lib.hid hfull
    have HFL := Lib.hid hfl
    have HCT := Lib.hid hct
    clear hfull hfl hct
    go_wp2_with fail
    refine (all_any _ _ _ _ _ _ hq.q (by omega) c0 c8 full HF.out 0).mono ?_
    rintro e wA ⟨v, rfl, hsl, hvB, hbA⟩
    rw [HCT.out] at hsl
    have hqA := hq.bel hbA
    obtain ⟨aov, capv, rfl, hcv, hmv⟩ := hsl.shape
    clear hq hbA hvB
    unfold maxLen at hmv
    go_wp2_with fail
    refine (Copy_any _ _ _ _ _ _ hqA.q (by omega)).mono ?_
    rintro e w2 ⟨rfl, vs2, hq2⟩
    obtain ⟨C, hC⟩ : ∃ C, wA.heap.size = C := ⟨_, rfl⟩
    rw [hC] at hq2 ⊢
    have hqk : Qb w2 (B + 1) B vs c L := hqA.q.keep (bel_fr0 (hC ▸ hq2.below)) (fun _ _ h => h)
    go_wp2_with fail
    refine (Len_any _ _ _ _ _ _ hqk (by omega)).mono ?_
    rintro e w3 ⟨rfl, rfl⟩
    rw [← HFL.out]
    clear hqk
    go_wp2_with fail
    have hlC : ∀ q, (Value.slice aov full.length capv).ownBlock = some q → q < C := fun q hq => by have := hsl.lt q hq; omega
    have hAC : wA.heap.size ≤ C := by omega
    clear hC
    go_loopw [7] (fun s7 wr => ∃ i : Nat, i ≤ full.length ∧ s7 = .int .i64 i ∧ ∃ vs2 c2 L2, QIn C wA wr (C + 1) C vs2 c2 L2 ∧ 0 ≤ c2 ∧ c2 ≤ 8 ∧ full.drop i = qrun (sumL L2 4) L2 c2) (fun s7 _ => full.length - (intOf s7).toNat)
    case atStart => exact ⟨0, by omega, rfl, _, _, _, hq2, c0, c8, by rw [HF.out]; rfl⟩
    case round =>
      clear hq2
      obtain ⟨i, hi, rfl, vs2, c2, L2, hq2, c20, c28, hdrop⟩ := hrel
      have hlen2 : full.length - i = sumL L2 4 := by
        have := congrArg List.length hdrop
        rw [qrun_length _ _ _ rfl] at this
        simpa using this
      have HL2 := Lib.hid hlen2
      clear hlen2
      by_cases hlt : i < full.length
      · have ht : qturn L2 c2 ≠ 0 := fun e => by have := sum_of_turn e; have := HL2.out; omega
        have hr := qturn_range L2 c2
        obtain ⟨kk, hkk⟩ : ∃ kk, qturn L2 c2 = kk := ⟨_, rfl⟩
        obtain ⟨x, r, hx⟩ := turn_head hkk (by omega)
        have hn : sumL L2 4 = sumL (setL L2 kk r) 4 + 1 := by subst hkk; exact sum_next (by omega) hx
        have hstep := qrun_step (n := sumL (setL L2 kk r) 4) hkk (by omega) hx
        rw [← hn, ← hdrop] at hstep
        have hxi : full[i]? = some x := by
          have := congrArg (fun l => l[0]?) hstep
          simpa [List.getElem?_drop] using this
        have hd2 : full.drop (i + 1) = qrun (sumL (setL L2 kk r) 4) (setL L2 kk r) (qcount kk c2) := by
          have := congrArg (List.drop 1) hstep
          simpa [List.drop_drop] using this
        have hc := qcount_range (k := kk) c20 c28
        have HT := Lib.hid hkk
        have HX := Lib.hid hx
        have HD := Lib.hid hd2
        have HI := Lib.hid hxi
        have k1 : 1 ≤ kk := by omega
        clear hd2 hstep hx hkk hdrop ht hr hxi
        go_wp2_with fail
        refine (Next_some _ _ _ _ _ _ hq2.q kk HT.out k1 x r HX.out c20 c28).mono ?_
        rintro e w4 ⟨rfl, hp⟩
        obtain ⟨vs4, hq4⟩ := hq2.step hp
        have hsl4 : Sl w4 2 1 (.slice aov full.length capv) full.length (i64s full) := hsl.keep fun q hq => hq4.below.block q (hlC q hq)
        obtain ⟨g, off, cap', hv', _, _, hcell⟩ := hsl4.rd.at (by omega)
        simp at hv'
        obtain ⟨rfl, rfl⟩ := hv'
        have hck := hcell i (by omega)
        rw [i64s_at HI.out] at hck
        clear hp hq2 hcell
        go_wp2_with fail
        go_roundw
        case rel => exact ⟨i + 1, by omega, by go_num, _, _, _, hq4, hc.1, hc.2, HD.out⟩
        case measure => simp [intOf]; omega
      · have h0 : qturn L2 c2 = 0 := sum_zero (by have := HL2.out; omega)
        have HT := Lib.hid h0
        clear h0 hdrop
        go_wp2_with fail
        refine (Next_none _ _ _ _ _ _ hq2.q HT.out).mono ?_
        rintro e w4 ⟨rfl, hp⟩
        obtain ⟨vs4, hq4⟩ := hq2.step hp
        have hqB := hqA.bel (hq4.below.mono hAC)
        have hsl4 : Sl w4 2 1 (.slice aov full.length capv) full.length (i64s full) := hsl.keep fun q hq => hq4.below.block q (hlC q hq)
        clear hp hq2 hqA
        go_wp2_with fail
        refine (all_any _ _ _ _ _ _ hqB.q (by omega) c0 c8 full HF.out 0).mono ?_
        rintro e w5 ⟨v5, rfl, hsl5, _, hb5⟩
        rw [HCT.out] at hsl5
        have hsl6 : Sl w5 2 1 (.slice aov full.length capv) full.length (i64s full) := hsl4.keep fun q hq => hb5.block q (hsl4.lt q hq)
        go_wp2_with fail
        refine (Same_yes _ _ full.length full _ hsl5.rd hsl6.rd).mono ?_
        rintro e w6 ⟨rfl, q6, rfl⟩
        have hqC := (hqB.bel hb5).keep ((Fr.refl (fun _ => False) w5).drewN q6) (fun _ _ h => h) (fun _ h => h.elim)
        clear hsl4 hsl5 hsl6 hqB hb5
        go_wp2_with fail
        refine (known_any _).mono ?_
        rintro e w7 ⟨rfl, hb7⟩
        go_wp2_with fail
        go_ret
        exact ⟨rfl, by rw [HB.out]; exact hqC.below.trans (hb7.mono hqC.size)⟩
end Go.Proofs.Ytjdinopiipmojaa
