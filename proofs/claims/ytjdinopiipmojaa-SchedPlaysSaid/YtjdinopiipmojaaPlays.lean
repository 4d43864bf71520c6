/- SchedPlays: any calls one after another: every answer; a copy goes on by itself. -/
import Derived.Test.YtjdinopiipmojaaStep
import Derived.Test.YtjdinopiipmojaaAllLaw
namespace Go.Proofs.Ytjdinopiipmojaa
open Go.RowKit

theorem wanted_at {ops : Array Oper} {tmps : Array Value} {o : Oper} (j : Nat) (b : Bool) (d : Nat) (h1 : o.guard = some (j, b)) (h2 : ops[j]?.bind (·.dst) = some d) (h3 : tmps[d]? = some (.bool b)) :
    Region.wanted o (yielded ops tmps) = true := by
  unfold Region.wanted yielded
  rw [h1]
  simp [h2, h3]

theorem seqH_nil {P : Program} {ops : Array Oper} {Q : Exit → Act → World → Prop} {S : World → Prop} {a : Act} {w : World} (h : Q .normal a w) : wpSeqH P ops Q S [] a w := h

theorem below_drewN (w : World) (q : Nat) : Below w.heap.size w (w.drewN q) := ⟨rfl, rfl, rfl, Nat.le_refl _, fun _ _ => rfl⟩

theorem Two.keep {B : Nat} {w0 w w' : World} {p bm q : Nat} {vs : Int → Value} {v : Value} {E : List (Int × Int)} {c : Int} {F G : Nat → Prop}
    (h : Two B w0 w p bm q vs v E c F) (hf : Fr G w w') (hF : ∀ k, F k → ¬ G k) (hB : ∀ k, G k → B ≤ k) : Two B w0 w' p bm q vs v E c F := ⟨h.pr.keep hf hF hB, h.good, h.len, h.c0⟩
theorem Two.bel {B : Nat} {w0 w w' : World} {p bm q : Nat} {vs : Int → Value} {v : Value} {E : List (Int × Int)} {c : Int} {F : Nat → Prop}
    (h : Two B w0 w p bm q vs v E c F) (hb : Below w.heap.size w w') : Two B w0 w' p bm q vs v E c F := ⟨h.pr.bel hb, h.good, h.len, h.c0⟩

/-- The copies, if they are made. -/
def Cop (B : Nat) (w0 w : World) (i : Nat) (cut : Int) (s7 s8 : Value) (F : Nat → Prop) : Prop :=
  (¬ (0 ≤ cut ∧ cut < i) ∧ s7 = .pointer none) ∨
  ((0 ≤ cut ∧ cut < i) ∧ ∃ p bm q vs v E c F2, s7 = .pointer (some ⟨p, 0, none⟩) ∧ s8 = .pointer (some ⟨q, 0, none⟩) ∧ Two B w0 w p bm q vs v E c F2 ∧ c ≤ i ∧ ∀ k, F2 k → ¬ F k)

theorem Cop.moved {B : Nat} {w0 w w' : World} {i : Nat} {cut : Int} {s7 s8 : Value} {F F' : Nat → Prop} (h : Cop B w0 w i cut s7 s8 F) (hm : Moved F F' w w') (hB : ∀ k, F k → B ≤ k) : Cop B w0 w' i cut s7 s8 F' := by
  rcases h with h | ⟨h1, p, bm, q, vs, v, E, c, F2, h2, h3, h4, h5, h6⟩
  · exact .inl h
  · refine .inr ⟨h1, p, bm, q, vs, v, E, c, F2, h2, h3, h4.keep hm.1 h6 hB, h5, fun k hk hk' => ?_⟩
    rcases hm.2 k hk' with x | x
    · exact h6 k hk x
    · have := h4.pr.fb k hk; omega

theorem Cop.bel {B : Nat} {w0 w w' : World} {i : Nat} {cut : Int} {s7 s8 : Value} {F : Nat → Prop} (h : Cop B w0 w i cut s7 s8 F) (hb : Below w.heap.size w w') (hF : ∀ k, F k → B ≤ k) : Cop B w0 w' i cut s7 s8 F :=
  h.moved ⟨(bel_fr0 hb).mono (fun _ h => h.elim), fun _ h => .inl h⟩ hF

theorem Cop.later {B : Nat} {w0 w : World} {i : Nat} {cut : Int} {s7 s8 : Value} {F : Nat → Prop} (h : Cop B w0 w i cut s7 s8 F) (hi : (i : Int) ≠ cut) : Cop B w0 w (i + 1) cut s7 s8 F := by
  rcases h with h | ⟨h1, p, bm, q, vs, v, E, c, F2, h2, h3, h4, h5, h6⟩
  · exact .inl ⟨by omega, h.2⟩
  · exact .inr ⟨by omega, p, bm, q, vs, v, E, c, F2, h2, h3, h4, by omega, h6⟩

/-- The order in which All tells them. -/
def fullOf (E : List (Int × Int)) (c : Int) : List Int := qrun E.length (lst E) (min c 8)

theorem Two.sum {B : Nat} {w0 w : World} {p bm q : Nat} {vs : Int → Value} {v : Value} {E : List (Int × Int)} {c : Int} {F : Nat → Prop} (h : Two B w0 w p bm q vs v E c F) : sumL (lst E) 4 = E.length := sum_len E h.good.pr

theorem Two.full {B : Nat} {w0 w : World} {p bm q : Nat} {vs : Int → Value} {v : Value} {E : List (Int × Int)} {c : Int} {F : Nat → Prop} (h : Two B w0 w p bm q vs v E c F) : (fullOf E c).length = E.length := qrun_length _ _ _ h.sum

theorem Two.all {B : Nat} {w0 w : World} {p bm q : Nat} {vs : Int → Value} {v : Value} {E : List (Int × Int)} {c : Int} {F : Nat → Prop} (h : Two B w0 w p bm q vs v E c F) (full : List Int) (hf : fullOf E c = full) (most : Int) :
    Calls Try.prog 14 #[.pointer (some ⟨p, 0, none⟩), .int .i64 most] w fun e w' => ∃ v, e = .returned v ∧ Sl w' 2 1 v (cutTo most full).length (i64s (cutTo most full)) ∧ (∀ k, v.ownBlock = some k → w.heap.size ≤ k) ∧ Below w.heap.size w w' := by
  have h1 := h.len
  have h2 := h.c0
  exact all_any p bm vs _ (lst E) w h.pr.b.q (by rw [h.sum]; omega) (by omega) (by omega) full (by rw [h.sum]; exact hf) most

theorem Two.rall {B : Nat} {w0 w : World} {p bm q : Nat} {vs : Int → Value} {v : Value} {E : List (Int × Int)} {c : Int} {F : Nat → Prop} (h : Two B w0 w p bm q vs v E c F) (full : List Int) (hf : fullOf E c = full) (hc : c ≤ 1125899906842624) :
    Calls Try.prog 21 #[.pointer (some ⟨q, 0, none⟩)] w fun e w' => ∃ v, e = .returned v ∧ Sl w' 2 1 v full.length (i64s full) ∧ (∀ k, v.ownBlock = some k → w.heap.size ≤ k) ∧ Below w.heap.size w w' := by
  have h1 := h.len
  exact RAll_any q v E c w h.pr.r (by omega) h.good.pr h.c0 hc full hf

theorem Two.has {B : Nat} {w0 w : World} {p bm q : Nat} {vs : Int → Value} {v : Value} {E : List (Int × Int)} {c : Int} {F : Nat → Prop} (h : Two B w0 w p bm q vs v E c F) (pid : Int) :
    Calls Try.prog 19 #[.pointer (some ⟨p, 0, none⟩), .int .i64 pid] w fun e w' => e = .returned (.bool (decide (0 ≤ place (fun e => e.1 == pid) E))) ∧ w' = w := by
  by_cases hp : ∃ e ∈ E, e.1 = pid
  · rw [decide_eq_true (place_mem.2 hp)]
    exact Has_yes p bm vs _ (lst E) pid w h.pr.b.q ((h.good.mem_iff pid).2 hp)
  · rw [decide_eq_false (fun x => hp (place_mem.1 x))]
    exact Has_no p bm vs _ (lst E) pid w h.pr.b.q (fun j j1 j4 hj => hp ((h.good.mem_iff pid).1 ⟨j, j1, j4, hj⟩))

theorem Next_q {p bm : Nat} {vs : Int → Value} {c : Int} {L : Int → List Int} {w : World} (hq : Qb w p bm vs c L) (c0 : 0 ≤ c) (c8 : c ≤ 8) :
    Calls Try.prog 10 #[.pointer (some ⟨p, 0, none⟩)] w fun e w' => ∃ x y, e = .returned (.tuple #[.int .i64 x, .int .i64 y]) ∧ ∃ c' L', QPost p bm vs c' L' w w' := by
  by_cases h0 : qturn L c = 0
  · refine (Next_none _ _ _ _ _ _ hq h0).mono ?_
    rintro e w1 ⟨rfl, hp⟩
    exact ⟨_, _, rfl, _, _, hp⟩
  · have h1 := qturn_range L c
    obtain ⟨x, r, hx⟩ := turn_head (k := qturn L c) rfl (by omega)
    refine (Next_some _ _ _ _ _ _ hq _ rfl (by omega) x r hx c0 c8).mono ?_
    rintro e w1 ⟨rfl, hp⟩
    exact ⟨_, _, rfl, _, _, hp⟩

theorem Cop.made {B : Nat} {w0 w w2 w3 : World} {i : Nat} {cut : Int} {p bm q : Nat} {vs : Int → Value} {v : Value} {E : List (Int × Int)} {c : Int} {F : Nat → Prop} (h : Two B w0 w p bm q vs v E c F) (hc : c ≤ i) (hi : (i : Int) = cut)
    {vs2 : Int → Value} {v2 : Value} (h2 : QIn w.heap.size w w2 (w.heap.size + 1) w.heap.size vs2 (min c 8) (lst E)) (h3 : RIn w2.heap.size w2 w3 w2.heap.size v2 E c) :
    Two B w0 w3 p bm q vs v E c F ∧ Cop B w0 w3 (i + 1) cut (.pointer (some ⟨w.heap.size + 1, 0, none⟩)) (.pointer (some ⟨w2.heap.size, 0, none⟩)) F := by
  have s1 := h.pr.b.size
  have s2 := h2.size
  have s3 := h3.size
  have hT2 := h.bel h2.below
  have hT3 := hT2.bel h3.below
  have hq3 : Qb w3 (w.heap.size + 1) w.heap.size vs2 (min c 8) (lst E) := h2.q.keep (bel_fr0 h3.below) (fun _ _ h => h)
  refine ⟨hT3, .inr ⟨by omega, _, _, _, vs2, v2, E, c, fun k => w.heap.size ≤ k ∧ k < w3.heap.size, rfl, rfl, ⟨⟨⟨hq3, fun k hk => ?_, hT3.pr.b.below, hT3.pr.b.size⟩, h3.r, fun k hk => ⟨h2.lies k hk, hq3.lt k hk⟩, fun k hk => ⟨?_, h3.r.lt k hk⟩, fun k hk hk' => ?_, fun k hk => ⟨by omega, hk.2⟩⟩, h.good, h.len, h.c0⟩, by omega, fun k hk hk' => ?_⟩⟩
  · have := h2.lies k hk; omega
  · have := h3.lies k hk; omega
  · have := h2.q.lt k hk
    have := h3.lies k hk'
    omega
  · have := (h.pr.fb k hk').2; omega

set_option linter.unusedSimpArgs false
set_option maxHeartbeats 3200000 in
set_option maxRecDepth 100000 in
theorem plays_walk (ao : Option Addr) (n cap : Nat) (cut : Int) (xss : List (List Value)) (w : World) (hS : Rd w 3 (.slice ao n cap) n xss.flatten) (hl3 : ∀ xs ∈ xss, xs.length = 3) (hlen : xss.length = n)
    (hops : ∀ xs ∈ xss, OpCells xs) (hn : n ≤ 140737488355328) :
    Calls Try.prog 6 #[.slice ao n cap, .int .i64 cut] w fun e w' => e = .returned (.bool true) ∧ Below w.heap.size w w' := by
  obtain ⟨B, hB⟩ : ∃ B, w.heap.size = B := ⟨_, rfl⟩
  obtain ⟨_, _, hv0, hc0, hm0⟩ := hS.shape
  simp at hv0
  obtain ⟨rfl, rfl⟩ := hv0
  unfold maxLen at hm0
  have HO := Lib.hid hops
  have HL := Lib.hid hl3
  have HN := Lib.hid hlen
  clear hops hl3 hlen
  go_enter Try.func6, Try.ntmps6
  go_wp2_with fail
  refine (New_any _).mono ?_
  rintro e w1 ⟨rfl, hq, hb⟩
  have h1 := QIn.new hq hb
  rw [hB] at h1 ⊢
  have hsz : w.heap.size ≤ B := by omega
  have HB := Lib.hid hB
  clear hq hb hB
  obtain ⟨q, hQ⟩ : ∃ q, w1.heap.size = q := ⟨_, rfl⟩
  obtain ⟨w2, hw2⟩ : ∃ w2, (w1.alloc (.cells #[.slice none 0 0, .int .i64 0] 46)).alloc (.cells #[.slice none 0 0, .int .i64 0] 46) = w2 := ⟨_, rfl⟩
  have hT : Hid (∃ vs v E c F, Two B w w2 (B + 1) B q vs v E c F ∧ c ≤ (0 : Nat)) := by
    have hf : Fr (fun _ => False) w1 w2 := by subst hw2; exact ((Fr.refl _ _).alloc _).alloc _
    have hr : w2.heap[q]? = some (.cells #[.slice none 0 0, .int .i64 0] 46 (0, 0)) := by
      subst hw2 hQ; exact blk_alloc (heap_alloc_new w1 _)
    have hb2 := h1.keep hf (fun _ _ h => h) (fun _ h => h.elim)
    have hlt := h1.q.lt
    have s1 := h1.size
    have s2 : w2.heap.size = q + 2 := by subst hw2 hQ; simp
    refine ⟨_, .slice none 0 0, [], 0, fun k => bf (B + 1) B (fun _ => .slice none 0 0) k ∨ k = q, ⟨⟨?_, ⟨hr, Sl.nil _ _ _⟩, fun k hk => .inl hk, fun k hk => .inr ?_, fun k hk hk' => ?_, fun k hk => ?_⟩, ⟨by simp, by simp⟩, by simp, by omega⟩, by omega⟩
    · exact hb2
    · rcases hk with h | h
      · exact h
      · simp [Value.ownBlock] at h
    · have := hlt k hk
      rcases hk' with h | h
      · omega
      · simp [Value.ownBlock] at h
    · rcases hk with hk | rfl
      · have := hlt k hk; have := h1.lies k hk; omega
      · omega
  have HW := Lib.hid hw2
  have HQ := Lib.hid hQ
  go_wp2_with fail
  clear hw2 hQ h1
  go_loopw [7, 8, 9] (fun s7 s8 s9 wr => ∃ k : Nat, k ≤ n ∧ s9 = .int .i64 k ∧ ∃ vs v E c F, Two B w wr (B + 1) B q vs v E c F ∧ c ≤ k ∧ Cop B w wr k cut s7 s8 F) (fun _ _ s9 _ => n - (intOf s9).toNat)
  case atStart =>
    obtain ⟨vs, v, E, c, F, hT, hc⟩ := hT.out
    exact ⟨0, by omega, rfl, vs, v, E, c, F, hT, hc, .inl ⟨by omega, rfl⟩⟩
  case round =>
    clear hT
    obtain ⟨k, hk, rfl, vs, v, E, c, F, hT, hck, hC⟩ := hrel
    by_cases hlt : k < n
    · obtain ⟨xs, hxs⟩ : ∃ xs, xss[k]? = some xs := ⟨xss[k]'(by have := HN.out; omega), List.getElem?_eq_getElem _⟩
      obtain ⟨op, pid, pr, rfl⟩ := HO.out xs (List.mem_of_getElem? hxs)
      obtain ⟨g, off, cap', hv, _, _, hcell0⟩ := hS.at (by omega)
      simp at hv
      obtain ⟨rfl, rfl⟩ := hv
      have HX := Lib.hid hxs
      clear hcell0 hxs
      go_upto_if 27 with fail
      go_cut [7, 8] (fun s7 s8 wx => ∃ vs v E c F, Two B w wx (B + 1) B q vs v E c F ∧ c ≤ k ∧ Cop B w wx (k + 1) cut s7 s8 F)
      case first =>
        by_cases hi : (k : Int) = cut
        · subst hi
          obtain ⟨X, hX⟩ : ∃ X, wr.heap.size = X := ⟨_, rfl⟩
          have hs := hT.sum
          have hl := hT.len
          go_wp2_with fail
          refine (Copy_any _ _ _ _ _ _ hT.pr.b.q (by omega)).mono ?_
          rintro e w3 ⟨rfl, vs2, hq2⟩
          have hr3 := (hT.bel hq2.below).pr.r
          go_wp2_with fail
          refine (RCopy_any _ _ _ _ _ hr3 (by omega)).mono ?_
          rintro e w4 ⟨rfl, v2, hr4⟩
          have hm := Cop.made (i := k) (cut := k) hT hck rfl hq2 hr4
          clear hq2 hr4 hr3 hC hT
          go_wp2_with fail
          go_meet
          case rel => exact ⟨vs, v, E, c, F, hm.1, hck, by rw [hX] at hm; exact hm.2⟩
        · go_wp2_with fail
          go_meet
          case rel => exact ⟨vs, v, E, c, F, hT, hck, hC.later hi⟩
      case rest =>
        clear hT hC hck
        obtain ⟨vs, v, E, c, F, hT, hck, hC⟩ := hcut
        have hbel := hT.pr.b.below
        obtain ⟨g', off', cap', hv, _, _, hcell⟩ := (hS.below hsz hbel).at (by omega)
        simp at hv
        obtain ⟨⟨rfl, rfl⟩, rfl⟩ := hv
        have cs : ∀ j, j < 3 → wc.cell? ⟨g, off + k * 3 + j, none⟩ = [Value.int .i64 op, .int .i64 pid, .int .i64 pr][j]? := fun j hj => by
          rw [Nat.add_assoc, hcell (k * 3 + j) (by omega), flat_get xss HL.out k j _ HX.out hj]
        have d0 := cs 0 (by omega)
        have d1 := cs 1 (by omega)
        have d2 := cs 2 (by omega)
        simp at d0 d1 d2
        have hgB : g < w.heap.size := by
          have := hS.at (by omega)
          obtain ⟨g2, off2, cap2, hv2, _, _, hcell2⟩ := this
          simp at hv2
          obtain ⟨⟨rfl, rfl⟩, rfl⟩ := hv2
          have h0 := hcell2 (k * 3 + 0) (by omega)
          rw [flat_get xss HL.out k 0 _ HX.out (by omega)] at h0
          simp [World.cell?] at h0
          rcases Nat.lt_or_ge g w.heap.size with h | h
          · exact h
          · simp [Array.getElem?_eq_none h] at h0
        clear cs hcell
        go_upto_region 13 with fail
        go_cut [75] (fun s75 wy => s75 = .bool false ∧ ∃ vs v E c F, Two B w wy (B + 1) B q vs v E c F ∧ c ≤ (k + 1 : Nat) ∧ Cop B w wy (k + 1) cut u7 u8 F)
        case first =>
          have hT2 : Two B w wc.drew (B + 1) B q vs v E c F := hT.bel (below_drewN wc 1)
          have hC2 : Cop B w wc.drew (k + 1) cut u7 u8 F := hC.bel (below_drewN wc 1) (fun k hk => (hT.pr.fb k hk).1)
          refine wp_region_seq [(0, true), (1, true), (2, true), (3, true), (4, true), (5, false), (6, false)]
            [(7, true), (8, true), (9, true), (11, true), (12, true), (13, true), (14, true), (15, true), (10, false), (16, true), (17, true), (18, true), (19, true), (20, true), (21, true), (22, true), (23, true), (24, true), (26, true), (27, true), (28, true), (29, true), (30, true), (31, true), (25, false), (32, false), (33, true), (34, true), (35, true), (36, true), (37, true), (39, true), (38, false), (40, false), (41, false), (42, true), (43, true)]
            (by kernel_rfl) (by kernel_rfl) (by kernel_rfl) (fun c a d v w h => by cases d <;> exact h) ?_
          repeat (refine seqP_take _ rfl (by rfl) (fun w => by (go_simp; with_reducible rfl)) ?_; simp only [Act.put, List.setIfInBounds_toArray, List.set_cons_zero, List.set_cons_succ])
          refine seqP_call rfl (by rfl) (fun K hK => ?_)
          go_simp
          refine hK _ _ ?_
          clear hK K
          refine seqP_call rfl (by rfl) (fun K hK => ?_)
          go_simp
          refine (step_any B w _ (B + 1) B q vs v E c F hT2 (by omega) op pid pr).mono ?_
          rintro e w2 ⟨rfl, vs1, v1, E1, c1, F1, hT3, hm, hc1⟩
          have hC3 := hC2.moved hm (fun k hk => (hT2.pr.fb k hk).1)
          have d1' : w2.cell? ⟨g, off + k * 3 + 1, none⟩ = some (.int .i64 pid) := by
            have hk := hm.1.block g (by have := hT2.pr.b.size; omega) (fun h => by have := (hT2.pr.fb g h).1; omega)
            have : wc.drew.cell? ⟨g, off + k * 3 + 1, none⟩ = some (.int .i64 pid) := d1
            unfold World.cell? at this ⊢
            rw [hk]; exact this
          refine hK _ _ ?_
          obtain ⟨aor, capr, hslr, hcr, hmr⟩ := hT3.pr.r.own.shape
          subst hslr
          have x1 := blk_cell hT3.pr.r.blk 0
          simp at x1
          have hl1 := hT3.len
          have hs1 := hT3.sum
          clear d0 d1 d2 hT2 hT hK K hC2 hC hm
          refine seqP_held (fun W => W.cell? ⟨q, 0, none⟩ = some (.slice aor E1.length capr) ∧ W.cell? ⟨g, off + k * 3 + 1, none⟩ = some (.int .i64 pid)) ⟨x1, d1'⟩ ?_
          refine seqH_take (o := ⟨some 39, _, _, _, _, none⟩) _ rfl (by rfl) (fun W hW => by (obtain ⟨e1, e2⟩ := hW; go_simp; with_reducible rfl)) ?_
          simp only [Act.put, List.setIfInBounds_toArray, List.set_cons_zero, List.set_cons_succ]
          refine seqH_take (o := ⟨some 40, _, _, _, _, none⟩) _ rfl (by rfl) (fun W hW => by (obtain ⟨e1, e2⟩ := hW; go_simp; with_reducible rfl)) ?_
          simp only [Act.put, List.setIfInBounds_toArray, List.set_cons_zero, List.set_cons_succ]
          refine seqH_take (o := ⟨some 41, _, _, _, _, some (8, false)⟩) _ rfl (wanted_at 8 false 40 rfl rfl rfl) (fun W hW => by (obtain ⟨e1, e2⟩ := hW; go_simp; with_reducible rfl)) ?_
          simp only [Act.put, List.setIfInBounds_toArray, List.set_cons_zero, List.set_cons_succ]
          refine seqH_take (o := ⟨some 43, _, _, _, _, some (8, false)⟩) _ rfl (wanted_at 8 false 40 rfl rfl rfl) (fun W hW => by (obtain ⟨e1, e2⟩ := hW; go_simp; with_reducible rfl)) ?_
          simp only [Act.put, List.setIfInBounds_toArray, List.set_cons_zero, List.set_cons_succ]
          refine seqH_take (o := ⟨some 44, _, _, _, _, some (8, false)⟩) _ rfl (wanted_at 8 false 40 rfl rfl rfl) (fun W hW => by (obtain ⟨e1, e2⟩ := hW; go_simp; with_reducible rfl)) ?_
          simp only [Act.put, List.setIfInBounds_toArray, List.set_cons_zero, List.set_cons_succ]
          refine seqH_take (o := ⟨some 45, _, _, _, _, some (8, false)⟩) _ rfl (wanted_at 8 false 40 rfl rfl rfl) (fun W hW => by (obtain ⟨e1, e2⟩ := hW; go_simp; with_reducible rfl)) ?_
          simp only [Act.put, List.setIfInBounds_toArray, List.set_cons_zero, List.set_cons_succ]
          refine seqH_take (o := ⟨some 46, _, _, _, _, some (8, false)⟩) _ rfl (wanted_at 8 false 40 rfl rfl rfl) (fun W hW => by (obtain ⟨e1, e2⟩ := hW; go_simp; with_reducible rfl)) ?_
          simp only [Act.put, List.setIfInBounds_toArray, List.set_cons_zero, List.set_cons_succ]
          refine seqH_take (o := ⟨some 47, _, _, _, _, some (8, false)⟩) _ rfl (wanted_at 8 false 40 rfl rfl rfl) (fun W hW => by (obtain ⟨e1, e2⟩ := hW; go_simp; with_reducible rfl)) ?_
          simp only [Act.put, List.setIfInBounds_toArray, List.set_cons_zero, List.set_cons_succ]
          refine seqH_call (o := ⟨some 42, _, _, _, _, some (8, false)⟩) rfl (wanted_at 8 false 40 rfl rfl rfl) (fun K hK => ?_)
          go_simp
          refine (Len_any (B + 1) B _ _ _ _ hT3.pr.b.q (by omega)).mono ?_
          rintro e w3 ⟨rfl, rfl⟩
          rw [hs1]
          refine hK _ _ ⟨x1, d1'⟩ ?_
          clear hK K
          refine seqH_take (o := ⟨some 48, _, _, _, _, some (8, false)⟩) _ rfl (wanted_at 8 false 40 rfl rfl rfl) (fun W hW => by (obtain ⟨e1, e2⟩ := hW; go_simp; with_reducible rfl)) ?_
          simp only [Act.put, List.setIfInBounds_toArray, List.set_cons_zero, List.set_cons_succ]
          refine seqH_take (o := ⟨some 49, _, _, _, _, none⟩) _ rfl (by rfl) (fun W hW => by (obtain ⟨e1, e2⟩ := hW; go_simp; with_reducible rfl)) ?_
          simp only [Act.put, List.setIfInBounds_toArray, List.set_cons_zero, List.set_cons_succ]
          refine seqH_take (o := ⟨some 50, _, _, _, _, none⟩) _ rfl (by rfl) (fun W hW => by (obtain ⟨e1, e2⟩ := hW; go_simp; with_reducible rfl)) ?_
          simp only [Act.put, List.setIfInBounds_toArray, List.set_cons_zero, List.set_cons_succ]
          refine seqH_take (o := ⟨some 51, _, _, _, _, some (18, false)⟩) _ rfl (wanted_at 18 false 50 rfl rfl rfl) (fun W hW => by (obtain ⟨e1, e2⟩ := hW; go_simp; with_reducible rfl)) ?_
          simp only [Act.put, List.setIfInBounds_toArray, List.set_cons_zero, List.set_cons_succ]
          refine seqH_take (o := ⟨some 52, _, _, _, _, some (18, false)⟩) _ rfl (wanted_at 18 false 50 rfl rfl rfl) (fun W hW => by (obtain ⟨e1, e2⟩ := hW; go_simp; with_reducible rfl)) ?_
          simp only [Act.put, List.setIfInBounds_toArray, List.set_cons_zero, List.set_cons_succ]
          refine seqH_take (o := ⟨some 53, _, _, _, _, some (18, false)⟩) _ rfl (wanted_at 18 false 50 rfl rfl rfl) (fun W hW => by (obtain ⟨e1, e2⟩ := hW; go_simp; with_reducible rfl)) ?_
          simp only [Act.put, List.setIfInBounds_toArray, List.set_cons_zero, List.set_cons_succ]
          refine seqH_take (o := ⟨some 54, _, _, _, _, some (18, false)⟩) _ rfl (wanted_at 18 false 50 rfl rfl rfl) (fun W hW => by (obtain ⟨e1, e2⟩ := hW; go_simp; with_reducible rfl)) ?_
          simp only [Act.put, List.setIfInBounds_toArray, List.set_cons_zero, List.set_cons_succ]
          refine seqH_take (o := ⟨some 55, _, _, _, _, some (18, false)⟩) _ rfl (wanted_at 18 false 50 rfl rfl rfl) (fun W hW => by (obtain ⟨e1, e2⟩ := hW; go_simp; with_reducible rfl)) ?_
          simp only [Act.put, List.setIfInBounds_toArray, List.set_cons_zero, List.set_cons_succ]
          refine seqH_take (o := ⟨some 56, _, _, _, _, some (18, false)⟩) _ rfl (wanted_at 18 false 50 rfl rfl rfl) (fun W hW => by (obtain ⟨e1, e2⟩ := hW; go_simp; with_reducible rfl)) ?_
          simp only [Act.put, List.setIfInBounds_toArray, List.set_cons_zero, List.set_cons_succ]
          refine seqH_take (o := ⟨some 58, _, _, _, _, some (18, false)⟩) _ rfl (wanted_at 18 false 50 rfl rfl rfl) (fun W hW => by (obtain ⟨e1, e2⟩ := hW; go_simp; with_reducible rfl)) ?_
          simp only [Act.put, List.setIfInBounds_toArray, List.set_cons_zero, List.set_cons_succ]
          refine seqH_take (o := ⟨some 59, _, _, _, _, some (18, false)⟩) _ rfl (wanted_at 18 false 50 rfl rfl rfl) (fun W hW => by (obtain ⟨e1, e2⟩ := hW; go_simp; with_reducible rfl)) ?_
          simp only [Act.put, List.setIfInBounds_toArray, List.set_cons_zero, List.set_cons_succ]
          refine seqH_take (o := ⟨some 60, _, _, _, _, some (18, false)⟩) _ rfl (wanted_at 18 false 50 rfl rfl rfl) (fun W hW => by (obtain ⟨e1, e2⟩ := hW; go_simp; with_reducible rfl)) ?_
          simp only [Act.put, List.setIfInBounds_toArray, List.set_cons_zero, List.set_cons_succ]
          refine seqH_take (o := ⟨some 61, _, _, _, _, some (18, false)⟩) _ rfl (wanted_at 18 false 50 rfl rfl rfl) (fun W hW => by (obtain ⟨e1, e2⟩ := hW; go_simp; with_reducible rfl)) ?_
          simp only [Act.put, List.setIfInBounds_toArray, List.set_cons_zero, List.set_cons_succ]
          refine seqH_take (o := ⟨some 62, _, _, _, _, some (18, false)⟩) _ rfl (wanted_at 18 false 50 rfl rfl rfl) (fun W hW => by (obtain ⟨e1, e2⟩ := hW; go_simp; with_reducible rfl)) ?_
          simp only [Act.put, List.setIfInBounds_toArray, List.set_cons_zero, List.set_cons_succ]
          refine seqH_take (o := ⟨some 63, _, _, _, _, some (18, false)⟩) _ rfl (wanted_at 18 false 50 rfl rfl rfl) (fun W hW => by (obtain ⟨e1, e2⟩ := hW; go_simp; with_reducible rfl)) ?_
          simp only [Act.put, List.setIfInBounds_toArray, List.set_cons_zero, List.set_cons_succ]
          refine seqH_call (o := ⟨some 57, _, _, _, _, some (18, false)⟩) rfl (wanted_at 18 false 50 rfl rfl rfl) (fun K hK => ?_)
          go_simp
          refine (hT3.has pid).mono ?_
          rintro e w3 ⟨rfl, rfl⟩
          refine hK _ _ ⟨x1, d1'⟩ ?_
          clear hK K
          refine seqH_call (o := ⟨some 64, _, _, _, _, some (18, false)⟩) rfl (wanted_at 18 false 50 rfl rfl rfl) (fun K hK => ?_)
          go_simp
          refine (RAt_any q _ E1 c1 pid _ hT3.pr.r).mono ?_
          rintro e w3 ⟨rfl, rfl⟩
          obtain ⟨pl, hpl⟩ : ∃ pl, place (fun e => e.1 == pid) E1 = pl := ⟨_, rfl⟩
          rw [hpl]
          clear hpl
          refine hK _ _ ⟨x1, d1'⟩ ?_
          clear hK K
          refine seqH_take (o := ⟨some 65, _, _, _, _, some (18, false)⟩) _ rfl (wanted_at 18 false 50 rfl rfl rfl) (fun W hW => by (obtain ⟨e1, e2⟩ := hW; go_simp; with_reducible rfl)) ?_
          simp only [Act.put, List.setIfInBounds_toArray, List.set_cons_zero, List.set_cons_succ]
          refine seqH_take (o := ⟨some 66, _, _, _, _, some (18, false)⟩) _ rfl (wanted_at 18 false 50 rfl rfl rfl) (fun W hW => by (obtain ⟨e1, e2⟩ := hW; go_simp; with_reducible rfl)) ?_
          simp only [Act.put, List.setIfInBounds_toArray, List.set_cons_zero, List.set_cons_succ]
          refine seqH_take (o := ⟨some 67, _, _, _, _, none⟩) _ rfl (by rfl) (fun W hW => by (obtain ⟨e1, e2⟩ := hW; go_simp; with_reducible rfl)) ?_
          simp only [Act.put, List.setIfInBounds_toArray, List.set_cons_zero, List.set_cons_succ]
          refine seqH_take (o := ⟨some 68, _, _, _, _, none⟩) _ rfl (by rfl) (fun W hW => by (obtain ⟨e1, e2⟩ := hW; go_simp; with_reducible rfl)) ?_
          simp only [Act.put, List.setIfInBounds_toArray, List.set_cons_zero, List.set_cons_succ]
          refine seqH_take (o := ⟨some 69, _, _, _, _, some (36, false)⟩) _ rfl (wanted_at 36 false 68 rfl rfl rfl) (fun W hW => by (obtain ⟨e1, e2⟩ := hW; go_simp; with_reducible rfl)) ?_
          simp only [Act.put, List.setIfInBounds_toArray, List.set_cons_zero, List.set_cons_succ]
          refine seqH_take (o := ⟨some 71, _, _, _, _, some (36, false)⟩) _ rfl (wanted_at 36 false 68 rfl rfl rfl) (fun W hW => by (obtain ⟨e1, e2⟩ := hW; go_simp; with_reducible rfl)) ?_
          simp only [Act.put, List.setIfInBounds_toArray, List.set_cons_zero, List.set_cons_succ]
          refine seqH_call (o := ⟨some 70, _, _, _, _, some (36, false)⟩) rfl (wanted_at 36 false 68 rfl rfl rfl) (fun K hK => ?_)
          go_simp
          refine (hT3.all _ rfl 0).mono ?_
          rintro e w4 ⟨v4, rfl, hs4, _, hbel4⟩
          rw [show cutTo 0 (fullOf E1 c1) = fullOf E1 c1 by unfold cutTo; rw [if_neg (by omega)]] at hs4
          have hT4 := hT3.bel hbel4
          have hC4 := hC3.bel hbel4 (fun k hk => (hT3.pr.fb k hk).1)
          have x2 := blk_cell hT4.pr.r.blk 0
          simp at x2
          have d2 : w4.cell? ⟨g, off + k * 3 + 1, none⟩ = some (.int .i64 pid) := by
            have hk := hbel4.block g (by have := hT3.pr.b.size; omega)
            have h0 := d1'
            unfold World.cell? at h0 ⊢
            rw [hk]; exact h0
          refine hK _ _ ⟨x2, d2⟩ ?_
          clear hK K hbel4 hC3 hT3
          refine seqH_call (o := ⟨some 72, _, _, _, _, some (36, false)⟩) rfl (wanted_at 36 false 68 rfl rfl rfl) (fun K hK => ?_)
          go_simp
          refine (hT4.rall _ rfl (by omega)).mono ?_
          rintro e w5 ⟨v5, rfl, hs5, _, hbel5⟩
          have hT5 := hT4.bel hbel5
          have hC5 := hC4.bel hbel5 (fun k hk => (hT4.pr.fb k hk).1)
          have hs6 : Sl w5 2 1 v4 (fullOf E1 c1).length (i64s (fullOf E1 c1)) := hs4.keep fun b hb => hbel5.block b (hs4.lt b hb)
          have x3 := blk_cell hT5.pr.r.blk 0
          simp at x3
          have d3 : w5.cell? ⟨g, off + k * 3 + 1, none⟩ = some (.int .i64 pid) := by
            have hk := hbel5.block g (by have := hT4.pr.b.size; omega)
            have h0 := d2
            unfold World.cell? at h0 ⊢
            rw [hk]; exact h0
          refine hK _ _ ⟨x3, d3⟩ ?_
          clear hK K hbel5 hC4 hT4
          refine seqH_call (o := ⟨some 73, _, _, _, _, some (36, false)⟩) rfl (wanted_at 36 false 68 rfl rfl rfl) (fun K hK => ?_)
          go_simp
          refine (Same_yes _ _ (fullOf E1 c1).length (fullOf E1 c1) _ hs6.rd hs5.rd).mono ?_
          rintro e w6 ⟨rfl, q6, rfl⟩
          refine hK _ _ ⟨x3, d3⟩ ?_
          clear hK K
          refine seqH_take (o := ⟨some 74, _, _, _, _, some (36, false)⟩) _ rfl (wanted_at 36 false 68 rfl rfl rfl) (fun W hW => by (obtain ⟨e1, e2⟩ := hW; go_simp; with_reducible rfl)) ?_
          simp only [Act.put, List.setIfInBounds_toArray, List.set_cons_zero, List.set_cons_succ]
          refine seqH_take (o := ⟨some 75, _, _, _, _, none⟩) _ rfl (by rfl) (fun W hW => by (obtain ⟨e1, e2⟩ := hW; go_simp; with_reducible rfl)) ?_
          simp only [Act.put, List.setIfInBounds_toArray, List.set_cons_zero, List.set_cons_succ]
          refine seqH_nil ?_
          go_wp2_with fail
          go_meet
          case rel => exact ⟨rfl, vs1, _, E1, c1, F1, hT5.bel (below_drewN _ _), by omega, hC5.bel (below_drewN _ _) (fun k hk => (hT5.pr.fb k hk).1)⟩
        case rest =>
          clear hT hC hck d0 d1 d2
          obtain ⟨rfl, vs, v, E, c, F, hT, hck, hC⟩ := hcut
          go_wp2_with fail
          go_roundw
          case rel => exact ⟨k + 1, by omega, by go_num, vs, v, E, c, F, hT, hck, hC⟩
          case measure => simp [intOf]; omega
    · obtain rfl : k = n := by omega
      clear hS HL HO HN HW HQ
      by_cases hc : 0 ≤ cut ∧ cut < k
      · rcases hC with ⟨h, _⟩ | ⟨_, p2, bm2, q2, vs2, v2, E2, c2, F2, rfl, rfl, hT2, hc2, hdis⟩
        · exact absurd hc h
        obtain ⟨hcut0, hcutk⟩ := hc
        have HD := Lib.hid hdis
        clear hdis
        go_upto_if 83 with fail
        go_cut [] (fun wx => ∃ vs v E c F, Two B w wx (B + 1) B q vs v E c F ∧ c ≤ k)
        case first =>
          go_wp2_with fail
          refine (hT2.all _ rfl 0).mono ?_
          rintro e w3 ⟨v3, rfl, hs3, _, hb3⟩
          rw [show cutTo 0 (fullOf E2 c2) = fullOf E2 c2 by unfold cutTo; rw [if_neg (by omega)]] at hs3
          have hT3 := hT2.bel hb3
          have hS3 := hT.bel hb3
          clear hT2 hT hb3
          go_wp2_with fail
          refine (hT3.rall _ rfl (by omega)).mono ?_
          rintro e w4 ⟨v4, rfl, hs4, _, hb4⟩
          have hT4 := hT3.bel hb4
          have hS4 := hS3.bel hb4
          have hs3' : Sl w4 2 1 v3 (fullOf E2 c2).length (i64s (fullOf E2 c2)) := hs3.keep fun b hb => hb4.block b (hs3.lt b hb)
          clear hT3 hS3 hb4 hs3
          go_wp2_with fail
          refine (Same_yes _ _ (fullOf E2 c2).length (fullOf E2 c2) _ hs3'.rd hs4.rd).mono ?_
          rintro e w5 ⟨rfl, q5, rfl⟩
          have hT5 := hT4.bel (below_drewN w4 q5)
          have hS5 := hS4.bel (below_drewN w4 q5)
          clear hT4 hS4 hs3' hs4
          generalize w4.drewN q5 = w5 at hT5 hS5 ⊢
          go_wp2_with fail
          refine (hS5.rall _ rfl (by omega)).mono ?_
          rintro e w6 ⟨v6, rfl, hs6, hv6, hb6⟩
          have hT6 := hT5.bel hb6
          have hS6 := hS5.bel hb6
          have hn6 : Hid (∀ b, v6.ownBlock = some b → ¬ F2 b) := Lib.hid fun b hb h => by
            have := hv6 b hb
            have := (hT5.pr.fb b h).2
            omega
          clear hT5 hS5 hb6 hv6
          have c20 := hT6.c0
          go_wp2_with fail
          refine (Next_q hT6.pr.b.q (by omega) (by omega)).mono ?_
          rintro e w7 ⟨x, y, rfl, c', L', vs', _, hf7, _⟩
          have hf7' := hf7.mono hT6.pr.f1
          have hS7 := hS6.keep hf7' (fun b hb hb' => HD.out b hb' hb) (fun b hb => (hT6.pr.fb b hb).1)
          have hs7 : Sl w7 2 1 v6 (fullOf E c).length (i64s (fullOf E c)) := hf7'.sl hs6 (fun b hb => hn6.out b hb)
          clear hT6 hS6 hf7 hf7' hs6 hn6
          go_wp2_with fail
          refine (hS7.all _ rfl 0).mono ?_
          rintro e w8 ⟨v8, rfl, hs8, _, hb8⟩
          rw [show cutTo 0 (fullOf E c) = fullOf E c by unfold cutTo; rw [if_neg (by omega)]] at hs8
          have hS8 := hS7.bel hb8
          have hs9 : Sl w8 2 1 v6 (fullOf E c).length (i64s (fullOf E c)) := hs7.keep fun b hb => hb8.block b (hs7.lt b hb)
          clear hS7 hb8 hs7
          go_wp2_with fail
          refine (Same_yes _ _ (fullOf E c).length (fullOf E c) _ hs8.rd hs9.rd).mono ?_
          rintro e w9 ⟨rfl, q9, rfl⟩
          have hS9 := hS8.bel (below_drewN w8 q9)
          clear hS8 hs8 hs9
          go_wp2_with fail
          go_meet
          case rel => exact ⟨_, _, _, _, _, hS9, hck⟩
        case rest =>
          clear hT2 HD
          clear hT hck
          obtain ⟨vs, v, E, c, F, hT, hck⟩ := hcut
          obtain ⟨full, hfull⟩ : ∃ full, fullOf E c = full := ⟨_, rfl⟩
          have hfl := hT.full
          rw [hfull] at hfl
          have HF := Lib.hid hfull
          have HFL := Lib.hid hfl
          have hl := hT.len
          have hfl64 : full.length ≤ 64 := by omega
          clear hfull hfl
          go_wp2_with fail
          refine (hT.rall full HF.out (by omega)).mono ?_
          rintro e w3 ⟨v3, rfl, hs3, _, hb3⟩
          have hT3 := hT.bel hb3
          clear hT hb3
          obtain ⟨aov, capv, rfl, hcv, hmv⟩ := hs3.shape
          unfold maxLen at hmv
          by_cases h2 : 2 < full.length
          · have HCT := Lib.hid (show cutTo 2 full = full.take 2 by unfold cutTo; rw [if_pos (by omega)]; rfl)
            have hrd := Rd.take (k := 2) hs3.rd (by omega)
            go_wp2_with fail
            refine (hT3.all full HF.out 2).mono ?_
            rintro e w4 ⟨v4, rfl, hs4, _, hb4⟩
            rw [HCT.out] at hs4
            rw [show (full.take 2).length = 2 by simp; omega] at hs4
            have hT4 := hT3.bel hb4
            have hrd4 : Rd w4 1 (.slice aov 2 capv) 2 (i64s (full.take 2)) := by
              have e : (i64s full).take (2 * 1) = i64s (full.take 2) := by simp [i64s, List.map_take]
              rw [← e]
              exact Rd.take (k := 2) (hs3.keep fun b hb => hb4.block b (hs3.lt b hb)).rd (by omega)
            clear hT3 hb4 hrd hs3
            go_wp2_with fail
            refine (Same_yes _ _ 2 (full.take 2) _ hs4.rd hrd4).mono ?_
            rintro e w5 ⟨rfl, q5, rfl⟩
            have hT5 := hT4.bel (below_drewN w4 q5)
            clear hT4 hs4 hrd4
            go_wp2_with fail
            refine (known_any _).mono ?_
            rintro e w6 ⟨rfl, hb6⟩
            go_wp2_with fail
            go_ret
            exact ⟨rfl, by rw [HB.out]; exact hT5.pr.b.below.trans (hb6.mono hT5.pr.b.size)⟩
          · have HCT := Lib.hid (show cutTo 2 full = full by
              unfold cutTo
              split
              · rw [List.take_of_length_le (by simp; omega)]
              · rfl)
            go_wp2_with fail
            refine (hT3.all full HF.out 2).mono ?_
            rintro e w4 ⟨v4, rfl, hs4, _, hb4⟩
            rw [HCT.out] at hs4
            have hT4 := hT3.bel hb4
            have hs5 : Sl w4 2 1 (.slice aov full.length capv) full.length (i64s full) := hs3.keep fun b hb => hb4.block b (hs3.lt b hb)
            clear hT3 hb4 hs3
            go_wp2_with fail
            refine (Same_yes _ _ full.length full _ hs4.rd hs5.rd).mono ?_
            rintro e w5 ⟨rfl, q5, rfl⟩
            have hT5 := hT4.bel (below_drewN w4 q5)
            clear hT4 hs4 hs5
            go_wp2_with fail
            refine (known_any _).mono ?_
            rintro e w6 ⟨rfl, hb6⟩
            go_wp2_with fail
            go_ret
            exact ⟨rfl, by rw [HB.out]; exact hT5.pr.b.below.trans (hb6.mono hT5.pr.b.size)⟩
      · clear hC
        by_cases h0 : 0 ≤ cut
        · have h1 : (k : Int) ≤ cut := by omega
          clear hc
          obtain ⟨full, hfull⟩ : ∃ full, fullOf E c = full := ⟨_, rfl⟩
          have hfl := hT.full
          rw [hfull] at hfl
          have HF := Lib.hid hfull
          have HFL := Lib.hid hfl
          have hl := hT.len
          have hfl64 : full.length ≤ 64 := by omega
          clear hfull hfl
          go_wp2_with fail
          refine (hT.rall full HF.out (by omega)).mono ?_
          rintro e w3 ⟨v3, rfl, hs3, _, hb3⟩
          have hT3 := hT.bel hb3
          clear hT hb3
          obtain ⟨aov, capv, rfl, hcv, hmv⟩ := hs3.shape
          unfold maxLen at hmv
          by_cases h2 : 2 < full.length
          · have HCT := Lib.hid (show cutTo 2 full = full.take 2 by unfold cutTo; rw [if_pos (by omega)]; rfl)
            have hrd := Rd.take (k := 2) hs3.rd (by omega)
            go_wp2_with fail
            refine (hT3.all full HF.out 2).mono ?_
            rintro e w4 ⟨v4, rfl, hs4, _, hb4⟩
            rw [HCT.out] at hs4
            rw [show (full.take 2).length = 2 by simp; omega] at hs4
            have hT4 := hT3.bel hb4
            have hrd4 : Rd w4 1 (.slice aov 2 capv) 2 (i64s (full.take 2)) := by
              have e : (i64s full).take (2 * 1) = i64s (full.take 2) := by simp [i64s, List.map_take]
              rw [← e]
              exact Rd.take (k := 2) (hs3.keep fun b hb => hb4.block b (hs3.lt b hb)).rd (by omega)
            clear hT3 hb4 hrd hs3
            go_wp2_with fail
            refine (Same_yes _ _ 2 (full.take 2) _ hs4.rd hrd4).mono ?_
            rintro e w5 ⟨rfl, q5, rfl⟩
            have hT5 := hT4.bel (below_drewN w4 q5)
            clear hT4 hs4 hrd4
            go_wp2_with fail
            refine (known_any _).mono ?_
            rintro e w6 ⟨rfl, hb6⟩
            go_wp2_with fail
            go_ret
            exact ⟨rfl, by rw [HB.out]; exact hT5.pr.b.below.trans (hb6.mono hT5.pr.b.size)⟩
          · have HCT := Lib.hid (show cutTo 2 full = full by
              unfold cutTo
              split
              · rw [List.take_of_length_le (by simp; omega)]
              · rfl)
            go_wp2_with fail
            refine (hT3.all full HF.out 2).mono ?_
            rintro e w4 ⟨v4, rfl, hs4, _, hb4⟩
            rw [HCT.out] at hs4
            have hT4 := hT3.bel hb4
            have hs5 : Sl w4 2 1 (.slice aov full.length capv) full.length (i64s full) := hs3.keep fun b hb => hb4.block b (hs3.lt b hb)
            clear hT3 hb4 hs3
            go_wp2_with fail
            refine (Same_yes _ _ full.length full _ hs4.rd hs5.rd).mono ?_
            rintro e w5 ⟨rfl, q5, rfl⟩
            have hT5 := hT4.bel (below_drewN w4 q5)
            clear hT4 hs4 hs5
            go_wp2_with fail
            refine (known_any _).mono ?_
            rintro e w6 ⟨rfl, hb6⟩
            go_wp2_with fail
            go_ret
            exact ⟨rfl, by rw [HB.out]; exact hT5.pr.b.below.trans (hb6.mono hT5.pr.b.size)⟩
        · clear hc
          obtain ⟨full, hfull⟩ : ∃ full, fullOf E c = full := ⟨_, rfl⟩
          have hfl := hT.full
          rw [hfull] at hfl
          have HF := Lib.hid hfull
          have HFL := Lib.hid hfl
          have hl := hT.len
          have hfl64 : full.length ≤ 64 := by omega
          clear hfull hfl
          go_wp2_with fail
          refine (hT.rall full HF.out (by omega)).mono ?_
          rintro e w3 ⟨v3, rfl, hs3, _, hb3⟩
          have hT3 := hT.bel hb3
          clear hT hb3
          obtain ⟨aov, capv, rfl, hcv, hmv⟩ := hs3.shape
          unfold maxLen at hmv
          by_cases h2 : 2 < full.length
          · have HCT := Lib.hid (show cutTo 2 full = full.take 2 by unfold cutTo; rw [if_pos (by omega)]; rfl)
            have hrd := Rd.take (k := 2) hs3.rd (by omega)
            go_wp2_with fail
            refine (hT3.all full HF.out 2).mono ?_
            rintro e w4 ⟨v4, rfl, hs4, _, hb4⟩
            rw [HCT.out] at hs4
            rw [show (full.take 2).length = 2 by simp; omega] at hs4
            have hT4 := hT3.bel hb4
            have hrd4 : Rd w4 1 (.slice aov 2 capv) 2 (i64s (full.take 2)) := by
              have e : (i64s full).take (2 * 1) = i64s (full.take 2) := by simp [i64s, List.map_take]
              rw [← e]
              exact Rd.take (k := 2) (hs3.keep fun b hb => hb4.block b (hs3.lt b hb)).rd (by omega)
            clear hT3 hb4 hrd hs3
            go_wp2_with fail
            refine (Same_yes _ _ 2 (full.take 2) _ hs4.rd hrd4).mono ?_
            rintro e w5 ⟨rfl, q5, rfl⟩
            have hT5 := hT4.bel (below_drewN w4 q5)
            clear hT4 hs4 hrd4
            go_wp2_with fail
            refine (known_any _).mono ?_
            rintro e w6 ⟨rfl, hb6⟩
            go_wp2_with fail
            go_ret
            exact ⟨rfl, by rw [HB.out]; exact hT5.pr.b.below.trans (hb6.mono hT5.pr.b.size)⟩
          · have HCT := Lib.hid (show cutTo 2 full = full by
              unfold cutTo
              split
              · rw [List.take_of_length_le (by simp; omega)]
              · rfl)
            go_wp2_with fail
            refine (hT3.all full HF.out 2).mono ?_
            rintro e w4 ⟨v4, rfl, hs4, _, hb4⟩
            rw [HCT.out] at hs4
            have hT4 := hT3.bel hb4
            have hs5 : Sl w4 2 1 (.slice aov full.length capv) full.length (i64s full) := hs3.keep fun b hb => hb4.block b (hs3.lt b hb)
            clear hT3 hb4 hs3
            go_wp2_with fail
            refine (Same_yes _ _ full.length full _ hs4.rd hs5.rd).mono ?_
            rintro e w5 ⟨rfl, q5, rfl⟩
            have hT5 := hT4.bel (below_drewN w4 q5)
            clear hT4 hs4 hs5
            go_wp2_with fail
            refine (known_any _).mono ?_
            rintro e w6 ⟨rfl, hb6⟩
            go_wp2_with fail
            go_ret
            exact ⟨rfl, by rw [HB.out]; exact hT5.pr.b.below.trans (hb6.mono hT5.pr.b.size)⟩
end Go.Proofs.Ytjdinopiipmojaa
