/- PlainPlays: any room, any calls one after another: every answer. -/
import Derived.Test.YtbedgeimpobhdaaSteps
import Derived.Test.YtbedgeimpobhdaaStep8
import Derived.Test.YtbedgeimpobhdaaKnown
import Derived.Test.YtbedgeimpobhdaaAll
import Derived.Test.YtbedgeimpobhdaaArgs
import Derived.Test.YtbedgeimpobhdaaSeq
import Derived.Deep.DeepCutAuto
namespace Go.Proofs.Ytbedgeimpobhdaa
open Go.RowKit

theorem wanted_at {ops : Array Oper} {tmps : Array Value} {o : Oper} (j : Nat) (b : Bool) (d : Nat) (h1 : o.guard = some (j, b)) (h2 : ops[j]?.bind (·.dst) = some d) (h3 : tmps[d]? = some (.bool b)) :
    Region.wanted o (yielded ops tmps) = true := by
  unfold Region.wanted yielded
  rw [h1]
  simp [h2, h3]

theorem seqH_nil {P : Program} {ops : Array Oper} {Q : Exit → Act → World → Prop} {S : World → Prop} {a : Act} {w : World} (h : Q .normal a w) : wpSeqH P ops Q S [] a w := h

theorem below_drewN (w : World) (q : Nat) : Below w.heap.size w (w.drewN q) := ⟨rfl, rfl, rfl, Nat.le_refl _, fun _ _ => rfl⟩

theorem step_any (B : Nat) (w0 w : World) (p q : Nat) (room : Int) (at_ : Nat) (ex : Int) (l : List Int) (h : Two B w0 w p q room at_ ex l) (hroom : room ≤ 32) (k m n : Int) (ao : Option Addr) (nl cap : Nat)
    (L : List Int) (hv : Rd w0 1 (.slice ao nl cap) nl (u64s L)) (hB : w0.heap.size ≤ B) (hreach : cap * 8 ≤ 140737488351232) :
    Calls Try.prog 19 #[.pointer (some ⟨p, 0, none⟩), .pointer (some ⟨q, 0, none⟩), opv k m n ao nl cap] w fun e w' => StepPost B w0 p q room e w' := by
  by_cases h0 : k = 0
  · subst h0; exact step_0 B w0 w p q room at_ ex l h hroom m n ao nl cap
  by_cases h0 : k = 1
  · subst h0; exact step_1 B w0 w p q room at_ ex l h hroom m n ao nl cap
  by_cases h0 : k = 2
  · subst h0; exact step_2 B w0 w p q room at_ ex l h hroom m n ao nl cap
  by_cases h0 : k = 3
  · subst h0; exact step_3 B w0 w p q room at_ ex l h hroom m n ao nl cap
  by_cases h0 : k = 4
  · subst h0; exact step_4 B w0 w p q room at_ ex l h hroom m n ao nl cap
  by_cases h0 : k = 5
  · subst h0; exact step_5 B w0 w p q room at_ ex l h hroom m n ao nl cap
  by_cases h0 : k = 6
  · subst h0; exact step_6 B w0 w p q room at_ ex l h hroom m n ao nl cap
  by_cases h0 : k = 7
  · subst h0; exact step_7 B w0 w p q room at_ ex l h hroom m n ao nl cap
  by_cases h0 : k = 8
  · subst h0; exact (step_8 B w0 w p q room at_ ex l h hroom m n ao nl cap L hv hB hreach).mono fun e w' ⟨l', h1, h2⟩ => ⟨h1, at_, ex, l', h2⟩
  by_cases h0 : k = 9
  · subst h0; exact step_9 B w0 w p q room at_ ex l h hroom m n ao nl cap
  exact step_other B w0 w p q room at_ ex l h hroom k m n ao nl cap (by omega)

/-- What is known of the cells of one call of the script. -/
def OpCells (W : World) (xs : List Value) : Prop :=
  ∃ (k m n : Int) (ao : Option Addr) (nl cap : Nat) (L : List Int), xs = [.int .i64 k, .int .u64 m, .int .i64 n, .slice ao nl cap] ∧ Rd W 1 (.slice ao nl cap) nl (u64s L) ∧ cap * 8 ≤ 140737488351232

theorem Two.drew {B : Nat} {w0 w : World} {p q : Nat} {room : Int} {at_ : Nat} {ex : Int} {l : List Int} (h : Two B w0 w p q room at_ ex l) : Two B w0 w.drew p q room at_ ex l := by
  obtain ⟨sl1, sl2, hP, h1, h2⟩ := h
  exact ⟨sl1, sl2, hP.keep ((Fr.refl (fun _ => False) w).drew) (fun _ _ h => h) (fun _ _ h => h) (fun _ h => h.elim), h1, h2⟩

/-- A call that only makes memory leaves the two as they were. -/
theorem Pair.bel {B : Nat} {w0 w w' : World} {p q : Nat} {room : Int} {at1 : Nat} {ex1 : Int} {l1 : List Int} {sl1 : Value} {at2 : Nat} {last ex2 : Int} {l2 : List Int} {sl2 : Value}
    (h : Pair B w0 w p q room at1 ex1 l1 sl1 at2 last ex2 l2 sl2) (hb : Below w.heap.size w w') : Pair B w0 w' p q room at1 ex1 l1 sl1 at2 last ex2 l2 sl2 :=
  h.keep (bel_fr hb) (fun k hk h' => by have := h.lt.1 k hk; omega) (fun k hk h' => by have := h.lt.2 k hk; omega) (fun k h' => Nat.le_trans h.b.size h')

set_option linter.unusedSimpArgs false
set_option maxHeartbeats 1600000 in
set_option maxRecDepth 100000 in
theorem plays_walk (room : Int) (ao : Option Addr) (n cap : Nat) (xss : List (List Value)) (w : World) (hS : Rd w 4 (.slice ao n cap) n xss.flatten) (hl4 : ∀ xs ∈ xss, xs.length = 4) (hlen : xss.length = n)
    (hops : ∀ xs ∈ xss, OpCells w xs) (hr1 : 1 ≤ room) (hr2 : room ≤ 32) :
    Calls Try.prog 6 #[.int .i64 room, .slice ao n cap] w fun e w' => e = .returned (.bool true) ∧ Below w.heap.size w w' := by
  obtain ⟨B, hB⟩ : ∃ B, w.heap.size = B := ⟨_, rfl⟩
  obtain ⟨_, _, hv0, hc0, hm0⟩ := hS.shape
  simp at hv0
  obtain ⟨rfl, rfl⟩ := hv0
  unfold maxLen at hm0
  go_enter Try.func6, Try.ntmps6
  go_wp2_with fail
  refine (New_ok room _ hr1 hr2).mono ?_
  rintro e w0 ⟨rfl, h0⟩
  obtain ⟨w1, hw1⟩ : ∃ w1, w0.alloc (.cells #[.int .i64 room, .slice none 0 0, .int .i64 0, .int .i64 (-1), .int .i64 0] 45) = w1 := ⟨_, rfl⟩
  have hT : Two B w w1 B (B + 1) room 0 0 [] := by
    have hb0 := BoxIn.new w room
    rw [← h0, hB] at hb0
    have hs0 : w0.heap.size = B + 1 := by rw [h0]; simp [hB]
    have hf : Fr (fun _ => False) w0 w1 := by subst hw1; exact (Fr.refl _ _).alloc _
    have hr := heap_alloc_new w0 (.cells #[.int .i64 room, .slice none 0 0, .int .i64 0, .int .i64 (-1), .int .i64 0] 45)
    rw [hw1, hs0] at hr
    exact ⟨_, .slice none 0 0, ⟨hb0.keep hf (fun _ _ h => h) (fun _ h => h.elim), ⟨by simpa using hr, Sl.nil _ _ _⟩, fun k hk => by rcases hk with rfl | hk; omega; simp [Value.ownBlock] at hk,
      fun k hk hk' => by
        rcases hk with rfl | hk
        · rcases hk' with h | h
          · omega
          · simp [Value.ownBlock] at h
        · simp [Value.ownBlock] at hk⟩, by simp, by simp; omega⟩
  have hs0 : w0.heap.size = B + 1 := by rw [h0]; simp [hB]
  rw [hB]
  have HB := Lib.hid hB
  have hsz : w.heap.size ≤ B := by omega
  clear h0 hB
  go_wp2_with fail
  clear hs0 hw1
  go_loopw [7] (fun s7 wr => ∃ k : Nat, k ≤ n ∧ s7 = .int .i64 k ∧ ∃ at_ ex l, Two B w wr B (B + 1) room at_ ex l) (fun s7 _ => n - (intOf s7).toNat)
  case atStart => exact ⟨0, by omega, rfl, _, _, _, hT⟩
  case round =>
    clear hT
    obtain ⟨k, hk, rfl, at_, ex, l, hT⟩ := hrel
    by_cases hlt : k < n
    · obtain ⟨xs, hxs⟩ : ∃ xs, xss[k]? = some xs := ⟨xss[k]'(by omega), List.getElem?_eq_getElem _⟩
      obtain ⟨op, m, nn, ao2, nl, cap2, L, rfl, hv, hreach⟩ := hops xs (List.mem_of_getElem? hxs)
      have hbel : Below B w wr := by obtain ⟨_, _, hP, _⟩ := hT; exact hP.b.below
      obtain ⟨g, off, cap', hv', _, _, hcell⟩ := (hS.below hsz hbel).at (by omega)
      simp at hv'
      obtain ⟨rfl, rfl⟩ := hv'
      have cs : ∀ j, j < 4 → wr.cell? ⟨g, off + k * 4 + j, none⟩ = [Value.int .i64 op, .int .u64 m, .int .i64 nn, .slice ao2 nl cap2][j]? := fun j hj => by
        rw [Nat.add_assoc, hcell (k * 4 + j) (by omega), flat_get xss hl4 k j _ hxs hj]
      have d0 := cs 0 (by omega)
      have d1 := cs 1 (by omega)
      have d2 := cs 2 (by omega)
      have d3 := cs 3 (by omega)
      simp at d0 d1 d2 d3
      clear cs hcell hxs
      have HO := Lib.hid hops
      have HL := Lib.hid hl4
      clear hops hl4
      go_upto_region 10 with fail
      go_cut [70] (fun s70 wx => s70 = .bool false ∧ ∃ at_ ex l, Two B w wx B (B + 1) room at_ ex l)
      case first =>
        have hT2 := hT.drew
        refine wp_region_seq [(0, true), (1, true), (2, true), (3, true), (4, true), (5, false), (6, false)]
          [(7, true), (8, true), (9, true), (11, true), (12, true), (13, true), (14, true), (15, true), (10, false), (16, true), (17, true), (18, true), (19, true), (21, true), (22, true), (23, true), (24, true), (20, false), (25, true), (26, true), (27, true), (28, true), (30, true), (31, true), (32, true), (33, true), (29, false), (34, false), (35, true), (36, true)]
          (by kernel_rfl) (by kernel_rfl) (by kernel_rfl) (fun c a d v w h => by cases d <;> exact h) ?_
        repeat (refine seqP_take _ rfl (by rfl) (fun w => by (go_simp; with_reducible rfl)) ?_; simp only [Act.put, List.setIfInBounds_toArray, List.set_cons_zero, List.set_cons_succ])
        refine seqP_call rfl (by rfl) (fun K hK => ?_)
        go_simp
        refine hK _ _ ?_
        clear hK K
        refine seqP_call rfl (by rfl) (fun K hK => ?_)
        go_simp
        refine (step_any B w _ B (B + 1) room at_ ex l hT2 hr2 op m nn ao2 nl cap2 L hv hsz hreach).mono ?_
        rintro e w2 ⟨rfl, at2, ex2, l2, sl1, sl2, hP, hat2, hlr2⟩
        refine hK _ _ ?_
        obtain ⟨aor, capr, hslr, _, _⟩ := hP.r.own.shape
        rw [hslr] at hP
        have c1 := blk_cell hP.r.blk 1
        have c4 := blk_cell hP.r.blk 4
        simp at c1 c4
        clear hslr d0 d1 d2 d3 hT2 hT hK K
        refine seqP_held (fun W => W.cell? ⟨B + 1, 1, none⟩ = some (.slice aor l2.length capr) ∧ W.cell? ⟨B + 1, 4, none⟩ = some (.int .i64 ex2)) ⟨c1, c4⟩ ?_
        refine seqH_take (o := ⟨some 41, _, _, _, _, none⟩) _ rfl (by rfl) (fun W hW => by (obtain ⟨e1, e2⟩ := hW; go_simp; with_reducible rfl)) ?_
        simp only [Act.put, List.setIfInBounds_toArray, List.set_cons_zero, List.set_cons_succ]
        refine seqH_take (o := ⟨some 42, _, _, _, _, none⟩) _ rfl (by rfl) (fun W hW => by (obtain ⟨e1, e2⟩ := hW; go_simp; with_reducible rfl)) ?_
        simp only [Act.put, List.setIfInBounds_toArray, List.set_cons_zero, List.set_cons_succ]
        refine seqH_take (o := ⟨some 43, _, _, _, _, some (8, false)⟩) _ rfl (wanted_at 8 false 42 rfl rfl rfl) (fun W hW => by (obtain ⟨e1, e2⟩ := hW; go_simp; with_reducible rfl)) ?_
        simp only [Act.put, List.setIfInBounds_toArray, List.set_cons_zero, List.set_cons_succ]
        refine seqH_take (o := ⟨some 45, _, _, _, _, some (8, false)⟩) _ rfl (wanted_at 8 false 42 rfl rfl rfl) (fun W hW => by (obtain ⟨e1, e2⟩ := hW; go_simp; with_reducible rfl)) ?_
        simp only [Act.put, List.setIfInBounds_toArray, List.set_cons_zero, List.set_cons_succ]
        refine seqH_take (o := ⟨some 46, _, _, _, _, some (8, false)⟩) _ rfl (wanted_at 8 false 42 rfl rfl rfl) (fun W hW => by (obtain ⟨e1, e2⟩ := hW; go_simp; with_reducible rfl)) ?_
        simp only [Act.put, List.setIfInBounds_toArray, List.set_cons_zero, List.set_cons_succ]
        refine seqH_take (o := ⟨some 47, _, _, _, _, some (8, false)⟩) _ rfl (wanted_at 8 false 42 rfl rfl rfl) (fun W hW => by (obtain ⟨e1, e2⟩ := hW; go_simp; with_reducible rfl)) ?_
        simp only [Act.put, List.setIfInBounds_toArray, List.set_cons_zero, List.set_cons_succ]
        refine seqH_take (o := ⟨some 48, _, _, _, _, some (8, false)⟩) _ rfl (wanted_at 8 false 42 rfl rfl rfl) (fun W hW => by (obtain ⟨e1, e2⟩ := hW; go_simp; with_reducible rfl)) ?_
        simp only [Act.put, List.setIfInBounds_toArray, List.set_cons_zero, List.set_cons_succ]
        refine seqH_take (o := ⟨some 49, _, _, _, _, some (8, false)⟩) _ rfl (wanted_at 8 false 42 rfl rfl rfl) (fun W hW => by (obtain ⟨e1, e2⟩ := hW; go_simp; with_reducible rfl)) ?_
        simp only [Act.put, List.setIfInBounds_toArray, List.set_cons_zero, List.set_cons_succ]
        refine seqH_call (o := ⟨some 44, _, _, _, _, some (8, false)⟩) rfl (wanted_at 8 false 42 rfl rfl rfl) (fun K hK => ?_)
        go_simp
        refine (Len_any B room _ _ l2 _ _ hP.b.box).mono ?_
        rintro e w3 ⟨rfl, rfl⟩
        refine hK _ _ ⟨c1, c4⟩ ?_
        clear hK K
        refine seqH_take (o := ⟨some 50, _, _, _, _, some (8, false)⟩) _ rfl (wanted_at 8 false 42 rfl rfl rfl) (fun W hW => by (obtain ⟨e1, e2⟩ := hW; go_simp; with_reducible rfl)) ?_
        simp only [Act.put, List.setIfInBounds_toArray, List.set_cons_zero, List.set_cons_succ]
        refine seqH_take (o := ⟨some 51, _, _, _, _, none⟩) _ rfl (by rfl) (fun W hW => by (obtain ⟨e1, e2⟩ := hW; go_simp; with_reducible rfl)) ?_
        simp only [Act.put, List.setIfInBounds_toArray, List.set_cons_zero, List.set_cons_succ]
        refine seqH_take (o := ⟨some 52, _, _, _, _, none⟩) _ rfl (by rfl) (fun W hW => by (obtain ⟨e1, e2⟩ := hW; go_simp; with_reducible rfl)) ?_
        simp only [Act.put, List.setIfInBounds_toArray, List.set_cons_zero, List.set_cons_succ]
        refine seqH_take (o := ⟨some 53, _, _, _, _, some (18, false)⟩) _ rfl (wanted_at 18 false 52 rfl rfl rfl) (fun W hW => by (obtain ⟨e1, e2⟩ := hW; go_simp; with_reducible rfl)) ?_
        simp only [Act.put, List.setIfInBounds_toArray, List.set_cons_zero, List.set_cons_succ]
        refine seqH_take (o := ⟨some 55, _, _, _, _, some (18, false)⟩) _ rfl (wanted_at 18 false 52 rfl rfl rfl) (fun W hW => by (obtain ⟨e1, e2⟩ := hW; go_simp; with_reducible rfl)) ?_
        simp only [Act.put, List.setIfInBounds_toArray, List.set_cons_zero, List.set_cons_succ]
        refine seqH_take (o := ⟨some 56, _, _, _, _, some (18, false)⟩) _ rfl (wanted_at 18 false 52 rfl rfl rfl) (fun W hW => by (obtain ⟨e1, e2⟩ := hW; go_simp; with_reducible rfl)) ?_
        simp only [Act.put, List.setIfInBounds_toArray, List.set_cons_zero, List.set_cons_succ]
        refine seqH_take (o := ⟨some 57, _, _, _, _, some (18, false)⟩) _ rfl (wanted_at 18 false 52 rfl rfl rfl) (fun W hW => by (obtain ⟨e1, e2⟩ := hW; go_simp; with_reducible rfl)) ?_
        simp only [Act.put, List.setIfInBounds_toArray, List.set_cons_zero, List.set_cons_succ]
        refine seqH_take (o := ⟨some 58, _, _, _, _, some (18, false)⟩) _ rfl (wanted_at 18 false 52 rfl rfl rfl) (fun W hW => by (obtain ⟨e1, e2⟩ := hW; go_simp; with_reducible rfl)) ?_
        simp only [Act.put, List.setIfInBounds_toArray, List.set_cons_zero, List.set_cons_succ]
        refine seqH_call (o := ⟨some 54, _, _, _, _, some (18, false)⟩) rfl (wanted_at 18 false 52 rfl rfl rfl) (fun K hK => ?_)
        go_simp
        refine (Examined_any B room _ _ l2 _ _ hP.b.box).mono ?_
        rintro e w3 ⟨rfl, rfl⟩
        refine hK _ _ ⟨c1, c4⟩ ?_
        clear hK K
        refine seqH_take (o := ⟨some 59, _, _, _, _, some (18, false)⟩) _ rfl (wanted_at 18 false 52 rfl rfl rfl) (fun W hW => by (obtain ⟨e1, e2⟩ := hW; go_simp; with_reducible rfl)) ?_
        simp only [Act.put, List.setIfInBounds_toArray, List.set_cons_zero, List.set_cons_succ]
        refine seqH_take (o := ⟨some 60, _, _, _, _, none⟩) _ rfl (by rfl) (fun W hW => by (obtain ⟨e1, e2⟩ := hW; go_simp; with_reducible rfl)) ?_
        simp only [Act.put, List.setIfInBounds_toArray, List.set_cons_zero, List.set_cons_succ]
        refine seqH_take (o := ⟨some 61, _, _, _, _, none⟩) _ rfl (by rfl) (fun W hW => by (obtain ⟨e1, e2⟩ := hW; go_simp; with_reducible rfl)) ?_
        simp only [Act.put, List.setIfInBounds_toArray, List.set_cons_zero, List.set_cons_succ]
        refine seqH_take (o := ⟨some 62, _, _, _, _, some (27, false)⟩) _ rfl (wanted_at 27 false 61 rfl rfl rfl) (fun W hW => by (obtain ⟨e1, e2⟩ := hW; go_simp; with_reducible rfl)) ?_
        simp only [Act.put, List.setIfInBounds_toArray, List.set_cons_zero, List.set_cons_succ]
        refine seqH_take (o := ⟨some 64, _, _, _, _, some (27, false)⟩) _ rfl (wanted_at 27 false 61 rfl rfl rfl) (fun W hW => by (obtain ⟨e1, e2⟩ := hW; go_simp; with_reducible rfl)) ?_
        simp only [Act.put, List.setIfInBounds_toArray, List.set_cons_zero, List.set_cons_succ]
        refine seqH_take (o := ⟨some 65, _, _, _, _, some (27, false)⟩) _ rfl (wanted_at 27 false 61 rfl rfl rfl) (fun W hW => by (obtain ⟨e1, e2⟩ := hW; go_simp; with_reducible rfl)) ?_
        simp only [Act.put, List.setIfInBounds_toArray, List.set_cons_zero, List.set_cons_succ]
        refine seqH_take (o := ⟨some 66, _, _, _, _, some (27, false)⟩) _ rfl (wanted_at 27 false 61 rfl rfl rfl) (fun W hW => by (obtain ⟨e1, e2⟩ := hW; go_simp; with_reducible rfl)) ?_
        simp only [Act.put, List.setIfInBounds_toArray, List.set_cons_zero, List.set_cons_succ]
        refine seqH_take (o := ⟨some 67, _, _, _, _, some (27, false)⟩) _ rfl (wanted_at 27 false 61 rfl rfl rfl) (fun W hW => by (obtain ⟨e1, e2⟩ := hW; go_simp; with_reducible rfl)) ?_
        simp only [Act.put, List.setIfInBounds_toArray, List.set_cons_zero, List.set_cons_succ]
        refine seqH_call (o := ⟨some 63, _, _, _, _, some (27, false)⟩) rfl (wanted_at 27 false 61 rfl rfl rfl) (fun K hK => ?_)
        go_simp
        refine (all_any B room _ _ l2 _ (by omega) 0 _ hP.b.box).mono ?_
        rintro e w4 ⟨v4, rfl, hs4, _, hbel4⟩
        rw [show cutTo 0 l2 = l2 by unfold cutTo; rw [if_neg (by omega)]] at hs4
        have hP4 := hP.bel hbel4
        have c1' := blk_cell hP4.r.blk 1
        have c4' := blk_cell hP4.r.blk 4
        simp at c1' c4'
        refine hK _ _ ⟨c1', c4'⟩ ?_
        clear hK K
        refine seqH_call (o := ⟨some 68, _, _, _, _, some (27, false)⟩) rfl (wanted_at 27 false 61 rfl rfl rfl) (fun K hK => ?_)
        go_simp
        refine (Same_yes _ _ l2.length l2 _ hs4.rd hP4.r.own.rd).mono ?_
        rintro e w5 ⟨rfl, q5, rfl⟩
        refine hK _ _ ⟨c1', c4'⟩ ?_
        clear hK K
        refine seqH_take (o := ⟨some 69, _, _, _, _, some (27, false)⟩) _ rfl (wanted_at 27 false 61 rfl rfl rfl) (fun W hW => by (obtain ⟨e1, e2⟩ := hW; go_simp; with_reducible rfl)) ?_
        simp only [Act.put, List.setIfInBounds_toArray, List.set_cons_zero, List.set_cons_succ]
        refine seqH_take (o := ⟨some 70, _, _, _, _, none⟩) _ rfl (by rfl) (fun W hW => by (obtain ⟨e1, e2⟩ := hW; go_simp; with_reducible rfl)) ?_
        simp only [Act.put, List.setIfInBounds_toArray, List.set_cons_zero, List.set_cons_succ]
        refine seqH_nil ?_
        go_wp2_with fail
        go_meet
        case rel => exact ⟨rfl, at2, ex2, l2, sl1, _, hP4.bel (below_drewN _ _), hat2, hlr2⟩
      case rest =>
        obtain ⟨rfl, hT3⟩ := hcut
        clear hT HO HL d0 d1 d2 d3
        go_wp2_with fail
        go_roundw
        case rel => exact ⟨k + 1, by omega, by go_num, hT3⟩
        case measure => simp [intOf]; omega
    · obtain rfl : k = n := by omega
      obtain ⟨sl1, sl2, hP, hat, hlr⟩ := hT
      clear hops hl4 hS
      go_wp2_with fail
      refine (all_any B room _ _ l _ (by omega) 2 _ hP.b.box).mono ?_
      rintro e w2 ⟨v2, rfl, hs2, _, hbel2⟩
      have hP2 := hP.bel hbel2
      clear hP
      obtain ⟨aor, capr, hslr, hcr, hmr⟩ := hP2.r.own.shape
      obtain ⟨aov, capv, rfl, hcv, hmv⟩ := hs2.shape
      subst hslr
      have c1 := blk_cell hP2.r.blk 1
      simp at c1
      have hb0 := hP2.b.below
      by_cases h2 : 2 < l.length
      · have hct : cutTo 2 l = l.take 2 := by unfold cutTo; rw [if_pos (by omega)]; rfl
        have hrd := Rd.take (k := 2) hP2.r.own.rd (by omega)
        rw [hct] at hs2
        rw [show (cutTo 2 l).length = 2 by rw [hct]; simp; omega]
        rw [show (l.take 2).length = 2 by simp; omega] at hs2
        go_wp2_with fail
        refine (Same_yes _ _ 2 (l.take 2) _ hs2.rd ?_).mono ?_
        · have : (u64s l).take (2 * 1) = u64s (l.take 2) := by simp [u64s, List.map_take]
          rw [← this]; exact hrd
        rintro e w5 ⟨rfl, q5, rfl⟩
        go_wp2_with fail
        refine (known_any _).mono ?_
        rintro e w6 ⟨rfl, hbel6⟩
        go_wp2_with fail
        go_ret
        exact ⟨rfl, by rw [HB.out]; exact (bel_drewN hb0 q5).trans (hbel6.mono hP2.b.size)⟩
      · have hct : cutTo 2 l = l := by
          unfold cutTo
          split
          · rename_i h; rw [List.take_of_length_le (by simp; omega)]
          · rfl
        rw [hct] at hs2
        rw [hct]
        go_wp2_with fail
        refine (Same_yes _ _ l.length l _ hs2.rd hP2.r.own.rd).mono ?_
        rintro e w5 ⟨rfl, q5, rfl⟩
        go_wp2_with fail
        refine (known_any _).mono ?_
        rintro e w6 ⟨rfl, hbel6⟩
        go_wp2_with fail
        go_ret
        exact ⟨rfl, by rw [HB.out]; exact (bel_drewN hb0 q5).trans (hbel6.mono hP2.b.size)⟩

theorem plays_nil (room : Int) (ao : Option Addr) (n cap : Nat) (w : World) (hr : room < 1 ∨ 32 < room) :
    Calls Try.prog 6 #[.int .i64 room, .slice ao n cap] w fun e w' => e = .returned (.bool true) ∧ Below w.heap.size w w' := by
  go_enter Try.func6, Try.ntmps6
  go_wp2_with fail
  refine (New_nil room _ hr).mono ?_
  rintro e w1 ⟨rfl, rfl⟩
  go_wp2_with fail
  all_goals
    refine (known_any _).mono ?_
    rintro e w2 ⟨rfl, hb⟩
    go_wp2_with fail
    go_ret
    exact ⟨rfl, hb⟩
end Go.Proofs.Ytbedgeimpobhdaa
