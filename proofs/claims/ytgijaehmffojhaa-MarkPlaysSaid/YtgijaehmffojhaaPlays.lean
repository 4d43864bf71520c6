/- MarkPlays: any room, any calls one after another: every answer. -/
import Derived.Test.YtgijaehmffojhaaStep
import Derived.Test.YtgijaehmffojhaaSwap51
import Derived.Test.YtgijaehmffojhaaArgs
namespace Go.Proofs.Ytgijaehmffojhaa
open Go.RowKit

theorem wanted_at {ops : Array Oper} {tmps : Array Value} {o : Oper} (j : Nat) (b : Bool) (d : Nat) (h1 : o.guard = some (j, b)) (h2 : ops[j]?.bind (·.dst) = some d) (h3 : tmps[d]? = some (.bool b)) :
    Region.wanted o (yielded ops tmps) = true := by
  unfold Region.wanted yielded
  rw [h1]
  simp [h2, h3]

theorem seqH_nil {P : Program} {ops : Array Oper} {Q : Exit → Act → World → Prop} {S : World → Prop} {a : Act} {w : World} (h : Q .normal a w) : wpSeqH P ops Q S [] a w := h

theorem cnt_snd {L M : List (Int × Int)} (h : L.map (·.2) = M.map (·.2)) (c : Int) : cnt L c = cnt M c := by
  have e : ∀ L : List (Int × Int), cnt L c = ((L.map (·.2)).filter (fun n => decide (n ≤ c))).length := by
    intro L
    unfold cnt
    rw [List.filter_map, List.length_map]
    rfl
  rw [e, e, h]

theorem swapL_fst {L : List (Int × Int)} {vs : List Int} (h : vs.length = L.length) : (swapL L vs).map (·.1) = vs := by
  unfold swapL
  rw [List.map_zipWith]
  apply List.ext_getElem?
  intro i
  simp only [List.getElem?_zipWith]
  cases h1 : vs[i]? with
  | none => simp
  | some m =>
    have h2 : i < L.length := by have := (List.getElem?_eq_some_iff.1 h1).1; omega
    simp [List.getElem?_eq_getElem h2]

theorem swapL_snd {L : List (Int × Int)} {vs : List Int} (h : vs.length = L.length) : (swapL L vs).map (·.2) = L.map (·.2) := by
  unfold swapL
  rw [List.map_zipWith]
  apply List.ext_getElem?
  intro i
  simp only [List.getElem?_zipWith, List.getElem?_map]
  cases h1 : L[i]? with
  | none => simp
  | some m =>
    have h2 : i < vs.length := by have := (List.getElem?_eq_some_iff.1 h1).1; omega
    simp [List.getElem?_eq_getElem h2]

theorem Rel.swapped {X : Bx} {R : Rx} (h : Rel X R) {vs : List Int} (hl : vs.length = R.L.length) : Rel { X with ns := swapN X.ns vs } { R with L := swapL R.L vs } := by
  have h1 := swapL_snd hl
  have hX : vs.length = X.ns.length := by rw [hl, h.len]
  refine ⟨?_, h.room, h.ex, h.on, ?_, fun m hm => ?_, ?_, h.mc, ?_, h.atc, ?_, h.off, h.c0⟩
  · show (swapN X.ns vs).map (·.2) = (swapL R.L vs).map (·.1)
    rw [swapN_snd hX, swapL_fst hl]
  · have h2 := h.inc
    rw [← List.pairwise_map (f := fun m : Int × Int => m.2) (R := fun a b => a < b)] at h2 ⊢
    show ((swapL R.L vs).map (·.2)).Pairwise _
    rw [h1]; exact h2
  · have h3 : m.2 ∈ R.L.map (·.2) := by rw [← h1]; exact List.mem_map.2 ⟨m, hm, rfl⟩
    obtain ⟨m', hm', e⟩ := List.mem_map.1 h3
    rw [← e]; exact h.lo m' hm'
  · show X.ms = R.ms.map (fun m => (m.1, cnt (swapL R.L vs) m.2))
    rw [h.ms]
    apply List.map_congr_left
    intro m _
    rw [cnt_snd h1]
  · show X.cur = cnt (swapL R.L vs) R.atn
    rw [cnt_snd h1]; exact h.cur
  · rcases h.last with h2 | ⟨h2, x, h3⟩
    · exact .inl h2
    · refine .inr ⟨h2, ?_⟩
      have h4 : ((swapL R.L vs).map (·.2))[X.last - 1]? = some R.last := by rw [h1, List.getElem?_map, h3]; rfl
      rw [List.getElem?_map] at h4
      show ∃ w, (swapL R.L vs)[X.last - 1]? = some (w, R.last)
      cases h5 : (swapL R.L vs)[X.last - 1]? with
      | none => rw [h5] at h4; simp at h4
      | some y =>
        rw [h5] at h4
        simp at h4
        exact ⟨y.1, by rw [← h4]⟩

theorem swap_r {X Y : Bx} {R : Rx} (hr : Rel X R) {L : List Int} {nl : Nat} {z : Int} (hz : SwapSays X L nl z Y) (hLl : L.length = nl) (hrl : (R.L.length : Int) ≤ R.room) :
    ∃ S, Rel Y S ∧ Grows R S ∧ ∀ (q : Nat) (lv mv : Value) (w : World) (_ : Rb w q lv mv R) (_ : R.L.length ≤ 1000) (a : Option Addr) (c : Nat) (_ : Rd w 1 (.slice a nl c) nl (u64s L)),
      Calls Try.prog 52 #[.pointer (some ⟨q, 0, none⟩), .slice a nl c] w fun e w' => e = .returned (.int .i64 z) ∧ RPost q lv mv S w w' := by
  rcases hz with ⟨rfl, h1, rfl⟩ | ⟨rfl, h1, rfl⟩
  · have hn : nl = R.L.length := by rw [h1, hr.len]
    subst hn
    refine ⟨_, hr.swapped hLl, ⟨rfl, by show R.came ≤ R.came + 1; omega, .inl rfl, id, fun _ => ?_⟩, fun q lv mv w h hl a c hv => RSwap_yes q lv mv R w h hl a c L hv⟩
    show ((swapL R.L L).length : Int) ≤ R.room
    have := congrArg List.length (swapL_snd hLl)
    simp only [List.length_map] at this
    rw [this]; exact hrl
  · have hn : nl ≠ R.L.length := by rw [← hr.len]; exact h1
    exact ⟨R, hr, ⟨rfl, by omega, .inl rfl, id, id⟩, fun q lv mv w h hl a c hv => (RSwap_no q lv mv R w h a nl c hn).mono fun e w' ⟨h1, h2⟩ => ⟨h1, h2 ▸ h.same (Below.refl _ _)⟩⟩

set_option maxHeartbeats 3200000 in
set_option maxRecDepth 100000 in
theorem step_8 (B : Nat) (w0 w : World) (p q : Nat) (room i : Int) (h : Alk B w0 w p q room i) (hroom : room ≤ 32) (m n : Int) (ao : Option Addr) (nl cap : Nat)
    (L : List Int) (hv : Rd w0 1 (.slice ao nl cap) nl (u64s L)) (hB : w0.heap.size ≤ B) (hreach : cap * 8 ≤ 140737488351232) :
    Calls Try.prog 24 #[.pointer (some ⟨p, 0, none⟩), .pointer (some ⟨q, 0, none⟩), opv 8 m n ao nl cap] w fun e w' => e = .returned (.bool true) ∧ Alk B w0 w' p q room (i + 1) := by
  obtain ⟨mv, X, lv, rv, R, hP, hr, a1, a2, a3, a4, a5, a6⟩ := h
  obtain ⟨Z, hZ⟩ : ∃ Z, w.heap.size = Z := ⟨_, rfl⟩
  obtain ⟨w1, hw1⟩ : ∃ w1, w.alloc (.cells #[.int .i64 8, .int .u64 m, .int .i64 n, .slice ao nl cap] 50) = w1 := ⟨_, rfl⟩
  have hx : w1.heap[Z]? = some (.cells #[.int .i64 8, .int .u64 m, .int .i64 n, .slice ao nl cap] 50 (0, 0)) := by subst hw1 hZ; exact heap_alloc_new w _
  have hfe : Fr (fun _ => False) w w1 := by subst hw1; exact (Fr.refl _ w).alloc _
  have hP1 := hP.keep hfe (fun _ _ h => h) (fun _ _ h => h) (fun _ h => h.elim)
  have hlt1 : ¬ mf p X.ns mv Z := fun h => by have := hP.b.m.lt Z h; omega
  have cx0 := blk_cell hx 0
  have cx3 := blk_cell hx 3
  simp at cx0 cx3
  have hXL := hr.len
  have HLL : L.length = nl := by have := hv.len; simpa [u64s] using this
  clear hP hfe
  unfold opv
  go_enter Try.func24, Try.ntmps24
  go_wp2_with fail
  refine (swap51 B w0 _ p mv X hP1.b ao nl cap L hv hB hreach).mono ?_
  rintro e w2 ⟨z, Y, rfl, hp, hz⟩
  obtain ⟨S, hS, hgr, hcall⟩ := swap_r hr hz HLL (by omega)
  obtain ⟨mv3, hP3, hf3⟩ := hP1.stepB hp
  have hx3 := hf3.at hx hlt1
  have k3 : w2.cell? ⟨Z, 3, none⟩ = some (.slice ao nl cap) := by have := blk_cell hx3 3; simpa using this
  have hv3 := hv.below hB hP3.b.below
  have HS := Lib.hid (And.intro hS hgr)
  clear hp hP1 hS hgr cx0 cx3 hx hw1 hz
  go_wp2_with fail
  refine (hcall q lv rv _ hP3.r (by omega) ao cap hv3).mono ?_
  rintro e w3 ⟨rfl, hp⟩
  obtain ⟨lv4, rv4, hP4, hf4⟩ := hP3.stepR hp
  clear hp hP3 hcall
  go_wp2_with fail
  go_ret
  exact ⟨rfl, Alk.of hP4 HS.out.1 HS.out.2 a1 a2 a3 a4 a5 a6⟩

theorem step_any (B : Nat) (w0 w : World) (p q : Nat) (room i : Int) (h : Alk B w0 w p q room i) (hroom : room ≤ 32) (hi : i ≤ 1125899906842624) (k m n : Int) (ao : Option Addr) (nl cap : Nat)
    (L : List Int) (hv : Rd w0 1 (.slice ao nl cap) nl (u64s L)) (hB : w0.heap.size ≤ B) (hreach : cap * 8 ≤ 140737488351232) :
    Calls Try.prog 24 #[.pointer (some ⟨p, 0, none⟩), .pointer (some ⟨q, 0, none⟩), opv k m n ao nl cap] w fun e w' => e = .returned (.bool true) ∧ Alk B w0 w' p q room (i + 1) := by
  by_cases h0 : k = 0
  · subst h0; exact step_0 B w0 w p q room i h hroom hi m n ao nl cap
  by_cases h1 : k = 1
  · subst h1; exact step_1 B w0 w p q room i h hroom hi m n ao nl cap
  by_cases h2 : k = 2
  · subst h2; exact step_2 B w0 w p q room i h hroom hi m n ao nl cap
  by_cases h3 : k = 3
  · subst h3; exact step_3 B w0 w p q room i h hroom hi m n ao nl cap
  by_cases h4 : k = 4
  · subst h4; exact step_4 B w0 w p q room i h hroom hi m n ao nl cap
  by_cases h5 : k = 5
  · subst h5; exact step_5 B w0 w p q room i h hroom hi m n ao nl cap
  by_cases h6 : k = 6
  · subst h6; exact step_6 B w0 w p q room i h hroom hi m n ao nl cap
  by_cases h7 : k = 7
  · subst h7; exact step_7 B w0 w p q room i h hroom hi m n ao nl cap
  by_cases h8 : k = 8
  · subst h8; exact step_8 B w0 w p q room i h hroom m n ao nl cap L hv hB hreach
  by_cases h9 : k = 9
  · subst h9; exact step_9 B w0 w p q room i h hroom hi m n ao nl cap
  exact step_other B w0 w p q room i h k m n ao nl cap (by omega)

/-- What is known of the cells of one call of the script. -/
def OpCells (W : World) (xs : List Value) : Prop :=
  ∃ (k m n : Int) (ao : Option Addr) (nl cap : Nat) (L : List Int), xs = [.int .i64 k, .int .u64 m, .int .i64 n, .slice ao nl cap] ∧ Rd W 1 (.slice ao nl cap) nl (u64s L) ∧ cap * 8 ≤ 140737488351232

theorem Alk.bel {B : Nat} {w0 w w' : World} {p q : Nat} {room i : Int} (h : Alk B w0 w p q room i) (hb : Below w.heap.size w w') : Alk B w0 w' p q room i := by
  obtain ⟨mv, X, lv, rv, R, hP, h⟩ := h
  exact ⟨mv, X, lv, rv, R, hP.bel hb, h⟩

set_option linter.unusedSimpArgs false
set_option maxHeartbeats 3200000 in
set_option maxRecDepth 100000 in
theorem plays_walk (room : Int) (ao : Option Addr) (n cap : Nat) (xss : List (List Value)) (w : World) (hS : Rd w 4 (.slice ao n cap) n xss.flatten) (hl4 : ∀ xs ∈ xss, xs.length = 4) (hlen : xss.length = n)
    (hops : ∀ xs ∈ xss, OpCells w xs) (hn : n ≤ 140737488355328) (hr1 : 1 ≤ room) (hr2 : room ≤ 32) :
    Calls Try.prog 6 #[.int .i64 room, .slice ao n cap] w fun e w' => e = .returned (.bool true) ∧ Below w.heap.size w w' := by
  obtain ⟨B, hB⟩ : ∃ B, w.heap.size = B := ⟨_, rfl⟩
  obtain ⟨_, _, hv0, hc0, hm0⟩ := hS.shape
  simp at hv0
  obtain ⟨rfl, rfl⟩ := hv0
  unfold maxLen at hm0
  have HO := Lib.hid hops
  have HL := Lib.hid hl4
  have HNL := Lib.hid hlen
  clear hops hl4 hlen
  go_enter Try.func6, Try.ntmps6
  go_wp2_with fail
  refine (New_ok room _ hr1 hr2).mono ?_
  rintro e w1 ⟨rfl, hq, hb⟩
  have hM := MbIn.new hq hb
  rw [hB] at hM ⊢
  have hsz : w.heap.size ≤ B := by omega
  have HB := Lib.hid hB
  clear hq hb hB
  obtain ⟨q, hq⟩ : ∃ q, w1.heap.size = q := ⟨_, rfl⟩
  obtain ⟨w2, hw2⟩ : ∃ w2, w1.alloc (.cells #[.int .i64 room, .slice none 0 0, .int .i64 0, .int .i64 0, .int .i64 0, .bool false, .slice none 0 0, .int .i64 0] 42) = w2 := ⟨_, rfl⟩
  have hA : Hid (Alk B w w2 B q room 0) := by
    have hf : Fr (fun _ => False) w1 w2 := by subst hw2; exact (Fr.refl _ _).alloc _
    have hr : w2.heap[q]? = some (.cells #[.int .i64 room, .slice none 0 0, .int .i64 0, .int .i64 0, .int .i64 0, .bool false, .slice none 0 0, .int .i64 0] 42 (0, 0)) := by
      subst hw2 hq; exact heap_alloc_new w1 _
    have hlt := hM.m.lt
    have hs3 := hM.size
    refine ⟨_, _, .slice none 0 0, .slice none 0 0, Rx.made room, ⟨hM.keep hf (fun _ _ h => h) (fun _ h => h.elim), ⟨hr, Sl.nil _ _ _, Sl.nil _ _ _⟩, fun k hk => ?_, fun k hk hk' => ?_⟩, Rel.made room, by simp [Rx.made], by simp [Rx.made]; omega, rfl, by simp [Rx.made], by simp [Rx.made], by simp [Rx.made]⟩
    · rcases hk with h | h | h
      · omega
      · simp [Value.ownBlock] at h
      · simp [Value.ownBlock] at h
    · have := hlt k hk
      rcases hk' with h | h | h
      · omega
      · simp [Value.ownBlock] at h
      · simp [Value.ownBlock] at h
  have HW := Lib.hid hw2
  have HQ := Lib.hid hq
  go_upto_block 0 with fail
  clear hw2 hq hM
  go_cut [] (fun wx => Alk B w wx B q room (n : Nat))
  case first =>
    go_wp2_with fail
    go_loopg [29] n (fun g s29 wr => ∃ k : Nat, k + g = n ∧ s29 = .int .i64 k ∧ Alk B w wr B q room (k : Nat))
    case atStart => exact ⟨0, by omega, rfl, hA.out⟩
    case round =>
      clear hA
      obtain ⟨k, hk, rfl, hT⟩ := hrel
      cases gk with
      | zero =>
        obtain rfl : k = n := by omega
        go_wp2_with fail
        go_meet
        case rel => exact hT
      | succ gl =>
        obtain ⟨xs, hxs⟩ : ∃ xs, xss[k]? = some xs := ⟨xss[k]'(by have := HNL.out; omega), List.getElem?_eq_getElem _⟩
        obtain ⟨op, m, nn, ao2, nl, cap2, L, rfl, hv, hreach⟩ := HO.out xs (List.mem_of_getElem? hxs)
        have hbel : Below B w wr := by obtain ⟨_, _, _, _, _, hP, _⟩ := hT; exact hP.b.below
        obtain ⟨g, off, cap', hv', _, _, hcell⟩ := (hS.below hsz hbel).at (by omega)
        simp at hv'
        obtain ⟨rfl, rfl⟩ := hv'
        have cs : ∀ j, j < 4 → wr.cell? ⟨g, off + k * 4 + j, none⟩ = [Value.int .i64 op, .int .u64 m, .int .i64 nn, .slice ao2 nl cap2][j]? := fun j hj => by
          rw [Nat.add_assoc, hcell (k * 4 + j) (by omega), flat_get xss HL.out k j _ hxs hj]
        have d0 := cs 0 (by omega)
        have d1 := cs 1 (by omega)
        have d2 := cs 2 (by omega)
        have d3 := cs 3 (by omega)
        simp at d0 d1 d2 d3
        clear cs hcell hxs hbel
        obtain ⟨Z, hZ⟩ : ∃ Z, wr.heap.size = Z := ⟨_, rfl⟩
        obtain ⟨w3, hw3⟩ : ∃ w3, wr.alloc (.cells #[.int .i64 op, .int .u64 m, .int .i64 nn, .slice ao2 nl cap2] 50) = w3 := ⟨_, rfl⟩
        have hx : w3.heap[Z]? = some (.cells #[.int .i64 op, .int .u64 m, .int .i64 nn, .slice ao2 nl cap2] 50 (0, 0)) := by subst hw3 hZ; exact heap_alloc_new wr _
        have hT3 : Alk B w w3 B q room (k : Nat) := by subst hw3; exact hT.bel ((Below.refl _ _).alloc (Nat.le_refl _) _)
        go_upto_region 10 with fail
        clear hT d0 d1 d2 d3 hw3
        go_cut [64] (fun s64 wx => s64 = .bool false ∧ Alk B w wx B q room (k + 1 : Nat))
        case first =>
          have hT2 : Alk B w w3.drew B q room (k : Nat) := hT3.bel (bel_drew w3)
          have hx2 : w3.drew.heap[Z]? = some (.cells #[.int .i64 op, .int .u64 m, .int .i64 nn, .slice ao2 nl cap2] 50 (0, 0)) := hx
          have d0 := blk_cell hx2 0
          have d1 := blk_cell hx2 1
          have d2 := blk_cell hx2 2
          have d3 := blk_cell hx2 3
          simp at d0 d1 d2 d3
          refine wp_region_seq [(0, true), (1, true), (2, false), (3, false)]
            [(4, true), (5, true), (6, true), (8, true), (9, true), (10, true), (11, true), (12, true), (7, false), (13, true), (14, true), (15, true), (16, true), (18, true), (19, true), (20, true), (21, true), (17, false), (22, true), (23, true), (24, true), (25, true), (27, true), (26, false), (28, false), (29, false), (30, true), (31, true)]
            (by kernel_rfl) (by kernel_rfl) (by kernel_rfl) (fun c a d v w h => by cases d <;> exact h) ?_
          repeat (refine seqP_take _ rfl (by rfl) (fun w => by (go_simp; with_reducible rfl)) ?_; simp only [Act.put, List.setIfInBounds_toArray, List.set_cons_zero, List.set_cons_succ])
          refine seqP_call rfl (by rfl) (fun K hK => ?_)
          go_simp
          refine hK _ _ ?_
          clear hK K
          refine seqP_call rfl (by rfl) (fun K hK => ?_)
          go_simp
          refine (step_any B w _ B q room (k : Nat) hT2 hr2 (by omega) op m nn ao2 nl cap2 L hv hsz hreach).mono ?_
          rintro e w2 ⟨rfl, mv, X, lv, rv, R, hP, hRel, b1, b2, b3, b4, b5, b6⟩
          refine hK _ _ ?_
          obtain ⟨aor, capr, hslr, hcr, hmr⟩ := hP.r.ol.shape
          subst hslr
          have c1 := blk_cell hP.r.blk 1
          have c7 := blk_cell hP.r.blk 7
          simp at c1 c7
          have hXL := hRel.len
          have hXe := hRel.ex
          have HW2 := Lib.hid hRel.words
          clear d0 d1 d2 d3 hT2 hT3 hx2 hx hK K
          refine seqP_held (fun W => W.cell? ⟨q, 1, none⟩ = some (.slice aor R.L.length capr) ∧ W.cell? ⟨q, 7, none⟩ = some (.int .i64 R.ex)) ⟨c1, c7⟩ ?_
          refine seqH_take (o := ⟨some 37, _, _, _, _, none⟩) _ rfl (by rfl) (fun W hW => by (obtain ⟨e1, e2⟩ := hW; go_simp; with_reducible rfl)) ?_
          simp only [Act.put, List.setIfInBounds_toArray, List.set_cons_zero, List.set_cons_succ]
          refine seqH_take (o := ⟨some 38, _, _, _, _, none⟩) _ rfl (by rfl) (fun W hW => by (obtain ⟨e1, e2⟩ := hW; go_simp; with_reducible rfl)) ?_
          simp only [Act.put, List.setIfInBounds_toArray, List.set_cons_zero, List.set_cons_succ]
          refine seqH_take (o := ⟨some 39, _, _, _, _, some (5, false)⟩) _ rfl (wanted_at 5 false 38 rfl rfl rfl) (fun W hW => by (obtain ⟨e1, e2⟩ := hW; go_simp; with_reducible rfl)) ?_
          simp only [Act.put, List.setIfInBounds_toArray, List.set_cons_zero, List.set_cons_succ]
          refine seqH_take (o := ⟨some 41, _, _, _, _, some (5, false)⟩) _ rfl (wanted_at 5 false 38 rfl rfl rfl) (fun W hW => by (obtain ⟨e1, e2⟩ := hW; go_simp; with_reducible rfl)) ?_
          simp only [Act.put, List.setIfInBounds_toArray, List.set_cons_zero, List.set_cons_succ]
          refine seqH_take (o := ⟨some 42, _, _, _, _, some (5, false)⟩) _ rfl (wanted_at 5 false 38 rfl rfl rfl) (fun W hW => by (obtain ⟨e1, e2⟩ := hW; go_simp; with_reducible rfl)) ?_
          simp only [Act.put, List.setIfInBounds_toArray, List.set_cons_zero, List.set_cons_succ]
          refine seqH_take (o := ⟨some 43, _, _, _, _, some (5, false)⟩) _ rfl (wanted_at 5 false 38 rfl rfl rfl) (fun W hW => by (obtain ⟨e1, e2⟩ := hW; go_simp; with_reducible rfl)) ?_
          simp only [Act.put, List.setIfInBounds_toArray, List.set_cons_zero, List.set_cons_succ]
          refine seqH_take (o := ⟨some 44, _, _, _, _, some (5, false)⟩) _ rfl (wanted_at 5 false 38 rfl rfl rfl) (fun W hW => by (obtain ⟨e1, e2⟩ := hW; go_simp; with_reducible rfl)) ?_
          simp only [Act.put, List.setIfInBounds_toArray, List.set_cons_zero, List.set_cons_succ]
          refine seqH_take (o := ⟨some 45, _, _, _, _, some (5, false)⟩) _ rfl (wanted_at 5 false 38 rfl rfl rfl) (fun W hW => by (obtain ⟨e1, e2⟩ := hW; go_simp; with_reducible rfl)) ?_
          simp only [Act.put, List.setIfInBounds_toArray, List.set_cons_zero, List.set_cons_succ]
          refine seqH_call (o := ⟨some 40, _, _, _, _, some (5, false)⟩) rfl (wanted_at 5 false 38 rfl rfl rfl) (fun K hK => ?_)
          go_simp
          refine (Len_any B mv X _ hP.b.m).mono ?_
          rintro e w3 ⟨rfl, rfl⟩
          rw [hXL]
          refine hK _ _ ⟨c1, c7⟩ ?_
          clear hK K
          refine seqH_take (o := ⟨some 46, _, _, _, _, some (5, false)⟩) _ rfl (wanted_at 5 false 38 rfl rfl rfl) (fun W hW => by (obtain ⟨e1, e2⟩ := hW; go_simp; with_reducible rfl)) ?_
          simp only [Act.put, List.setIfInBounds_toArray, List.set_cons_zero, List.set_cons_succ]
          refine seqH_take (o := ⟨some 47, _, _, _, _, none⟩) _ rfl (by rfl) (fun W hW => by (obtain ⟨e1, e2⟩ := hW; go_simp; with_reducible rfl)) ?_
          simp only [Act.put, List.setIfInBounds_toArray, List.set_cons_zero, List.set_cons_succ]
          refine seqH_take (o := ⟨some 48, _, _, _, _, none⟩) _ rfl (by rfl) (fun W hW => by (obtain ⟨e1, e2⟩ := hW; go_simp; with_reducible rfl)) ?_
          simp only [Act.put, List.setIfInBounds_toArray, List.set_cons_zero, List.set_cons_succ]
          refine seqH_take (o := ⟨some 49, _, _, _, _, some (15, false)⟩) _ rfl (wanted_at 15 false 48 rfl rfl rfl) (fun W hW => by (obtain ⟨e1, e2⟩ := hW; go_simp; with_reducible rfl)) ?_
          simp only [Act.put, List.setIfInBounds_toArray, List.set_cons_zero, List.set_cons_succ]
          refine seqH_take (o := ⟨some 51, _, _, _, _, some (15, false)⟩) _ rfl (wanted_at 15 false 48 rfl rfl rfl) (fun W hW => by (obtain ⟨e1, e2⟩ := hW; go_simp; with_reducible rfl)) ?_
          simp only [Act.put, List.setIfInBounds_toArray, List.set_cons_zero, List.set_cons_succ]
          refine seqH_take (o := ⟨some 52, _, _, _, _, some (15, false)⟩) _ rfl (wanted_at 15 false 48 rfl rfl rfl) (fun W hW => by (obtain ⟨e1, e2⟩ := hW; go_simp; with_reducible rfl)) ?_
          simp only [Act.put, List.setIfInBounds_toArray, List.set_cons_zero, List.set_cons_succ]
          refine seqH_take (o := ⟨some 53, _, _, _, _, some (15, false)⟩) _ rfl (wanted_at 15 false 48 rfl rfl rfl) (fun W hW => by (obtain ⟨e1, e2⟩ := hW; go_simp; with_reducible rfl)) ?_
          simp only [Act.put, List.setIfInBounds_toArray, List.set_cons_zero, List.set_cons_succ]
          refine seqH_take (o := ⟨some 54, _, _, _, _, some (15, false)⟩) _ rfl (wanted_at 15 false 48 rfl rfl rfl) (fun W hW => by (obtain ⟨e1, e2⟩ := hW; go_simp; with_reducible rfl)) ?_
          simp only [Act.put, List.setIfInBounds_toArray, List.set_cons_zero, List.set_cons_succ]
          refine seqH_call (o := ⟨some 50, _, _, _, _, some (15, false)⟩) rfl (wanted_at 15 false 48 rfl rfl rfl) (fun K hK => ?_)
          go_simp
          refine (Ex_any B mv X _ hP.b.m).mono ?_
          rintro e w3 ⟨rfl, rfl⟩
          rw [hXe]
          refine hK _ _ ⟨c1, c7⟩ ?_
          clear hK K
          refine seqH_take (o := ⟨some 55, _, _, _, _, some (15, false)⟩) _ rfl (wanted_at 15 false 48 rfl rfl rfl) (fun W hW => by (obtain ⟨e1, e2⟩ := hW; go_simp; with_reducible rfl)) ?_
          simp only [Act.put, List.setIfInBounds_toArray, List.set_cons_zero, List.set_cons_succ]
          refine seqH_take (o := ⟨some 56, _, _, _, _, none⟩) _ rfl (by rfl) (fun W hW => by (obtain ⟨e1, e2⟩ := hW; go_simp; with_reducible rfl)) ?_
          simp only [Act.put, List.setIfInBounds_toArray, List.set_cons_zero, List.set_cons_succ]
          refine seqH_take (o := ⟨some 57, _, _, _, _, none⟩) _ rfl (by rfl) (fun W hW => by (obtain ⟨e1, e2⟩ := hW; go_simp; with_reducible rfl)) ?_
          simp only [Act.put, List.setIfInBounds_toArray, List.set_cons_zero, List.set_cons_succ]
          refine seqH_take (o := ⟨some 58, _, _, _, _, some (24, false)⟩) _ rfl (wanted_at 24 false 57 rfl rfl rfl) (fun W hW => by (obtain ⟨e1, e2⟩ := hW; go_simp; with_reducible rfl)) ?_
          simp only [Act.put, List.setIfInBounds_toArray, List.set_cons_zero, List.set_cons_succ]
          refine seqH_take (o := ⟨some 60, _, _, _, _, some (24, false)⟩) _ rfl (wanted_at 24 false 57 rfl rfl rfl) (fun W hW => by (obtain ⟨e1, e2⟩ := hW; go_simp; with_reducible rfl)) ?_
          simp only [Act.put, List.setIfInBounds_toArray, List.set_cons_zero, List.set_cons_succ]
          refine seqH_call (o := ⟨some 59, _, _, _, _, some (24, false)⟩) rfl (wanted_at 24 false 57 rfl rfl rfl) (fun K hK => ?_)
          go_simp
          refine (all_any B mv X 0 _ hP.b.m (by omega)).mono ?_
          rintro e w4 ⟨v4, rfl, hs4, _, hbel4⟩
          rw [show cutTo 0 X.words = X.words by unfold cutTo; rw [if_neg (by omega)], show X.words = R.L.map (·.1) from HW2.out] at hs4
          have hP4 := hP.bel hbel4
          have c1' := blk_cell hP4.r.blk 1
          have c7' := blk_cell hP4.r.blk 7
          simp at c1' c7'
          refine hK _ _ ⟨c1', c7'⟩ ?_
          clear hK K hP hbel4 c1 c7
          refine seqH_call (o := ⟨some 61, _, _, _, _, some (24, false)⟩) rfl (wanted_at 24 false 57 rfl rfl rfl) (fun K hK => ?_)
          go_simp
          refine (RWords_any q _ _ R _ hP4.r (by omega)).mono ?_
          rintro e w5 ⟨v5, rfl, hs5, _, hbel5⟩
          have hP5 := hP4.bel hbel5
          have c1 := blk_cell hP5.r.blk 1
          have c7 := blk_cell hP5.r.blk 7
          simp at c1 c7
          have hs6 : Sl w5 26 1 v4 R.L.length (u64s (R.L.map (·.1))) := by
            have := hs4.keep (w' := w5) fun b hb => hbel5.block b (hs4.lt b hb)
            simpa using this
          refine hK _ _ ⟨c1, c7⟩ ?_
          clear hK K hP4 hbel5 c1' c7' hs4
          refine seqH_call (o := ⟨some 62, _, _, _, _, some (24, false)⟩) rfl (wanted_at 24 false 57 rfl rfl rfl) (fun K hK => ?_)
          go_simp
          refine (Same_yes _ _ R.L.length (R.L.map (·.1)) _ hs6.rd hs5.rd).mono ?_
          rintro e w6 ⟨rfl, q6, rfl⟩
          refine hK _ _ ⟨c1, c7⟩ ?_
          clear hK K
          refine seqH_take (o := ⟨some 63, _, _, _, _, some (24, false)⟩) _ rfl (wanted_at 24 false 57 rfl rfl rfl) (fun W hW => by (obtain ⟨e1, e2⟩ := hW; go_simp; with_reducible rfl)) ?_
          simp only [Act.put, List.setIfInBounds_toArray, List.set_cons_zero, List.set_cons_succ]
          refine seqH_take (o := ⟨some 64, _, _, _, _, none⟩) _ rfl (by rfl) (fun W hW => by (obtain ⟨e1, e2⟩ := hW; go_simp; with_reducible rfl)) ?_
          simp only [Act.put, List.setIfInBounds_toArray, List.set_cons_zero, List.set_cons_succ]
          refine seqH_nil ?_
          go_wp2_with fail
          go_meet
          case rel => exact ⟨rfl, mv, X, _, rv, R, hP5.bel (below_drewN _ _), hRel, b1, b2, b3, by omega, b5, by omega⟩
        case rest =>
          obtain ⟨rfl, hT4⟩ := hcut
          clear hT3 hx
          go_wp2_with fail
          go_roundg gl
          case measure => omega
          case rel => exact ⟨k + 1, by omega, by go_num, hT4⟩
  case rest =>
    clear hA hS HO HL HNL HW HQ
    obtain ⟨mv, X, lv, rv, R, hP, hRel, b1, b2, b3, b4, b5, b6⟩ := hcut
    obtain ⟨aor, capr, hslr, hcr, hmr⟩ := hP.r.ol.shape
    subst hslr
    have c1 := blk_cell hP.r.blk 1
    simp at c1
    have hXL := hRel.len
    have HW2 := Lib.hid hRel.words
    unfold maxLen at hmr
    by_cases h2 : 1 < R.L.length
    · have hlw : (R.L.map (·.1)).length = R.L.length := by simp
      have HCT := Lib.hid (show cutTo 1 X.words = (R.L.map (·.1)).take 1 by
        rw [show X.words = R.L.map (·.1) from HW2.out]
        unfold cutTo
        rw [if_pos (by omega)]
        rfl)
      clear hlw
      go_wp2_with fail
      refine (all_any B mv X 1 _ hP.b.m (by omega)).mono ?_
      rintro e w4 ⟨v4, rfl, hs4, _, hb4⟩
      rw [HCT.out] at hs4
      rw [show ((R.L.map (·.1)).take 1).length = 1 by simp; omega] at hs4
      have hP4 := hP.bel hb4
      clear hP hb4 c1
      go_wp2_with fail
      refine (RWords_any q _ _ R _ hP4.r (by omega)).mono ?_
      rintro e w5 ⟨v5, rfl, hs5, _, hb5⟩
      have hP5 := hP4.bel hb5
      have hs6 : Sl w5 26 1 v4 1 (u64s ((R.L.map (·.1)).take 1)) := hs4.keep fun b hb => hb5.block b (hs4.lt b hb)
      obtain ⟨ao5, cap5, rfl, hc5, hm5⟩ := hs5.shape
      have hrd := Rd.take (k := 1) hs5.rd (by omega)
      rw [show (u64s (R.L.map (·.1))).take (1 * 1) = u64s ((R.L.map (·.1)).take 1) by simp [u64s, List.map_take]] at hrd
      unfold maxLen at hm5
      clear hP4 hb5 hs4 hs5
      go_wp2_with fail
      refine (Same_yes _ _ 1 ((R.L.map (·.1)).take 1) _ hs6.rd hrd).mono ?_
      rintro e w6 ⟨rfl, q6, rfl⟩
      have hP6 := hP5.bel (below_drewN w5 q6)
      clear hP5 hs6 hrd
      go_wp2_with fail
      refine (awake_any _).mono ?_
      rintro e w7 ⟨rfl, hb7⟩
      go_wp2_with fail
      go_ret
      exact ⟨rfl, by rw [HB.out]; exact hP6.b.below.trans (hb7.mono hP6.b.size)⟩
    · go_wp2_with fail
      refine (awake_any _).mono ?_
      rintro e w7 ⟨rfl, hb7⟩
      go_wp2_with fail
      go_ret
      exact ⟨rfl, by rw [HB.out]; exact hP.b.below.trans (hb7.mono hP.b.size)⟩

theorem plays_nil (room : Int) (ao : Option Addr) (n cap : Nat) (w : World) (hr : room < 1 ∨ 32 < room) :
    Calls Try.prog 6 #[.int .i64 room, .slice ao n cap] w fun e w' => e = .returned (.bool true) ∧ Below w.heap.size w w' := by
  go_enter Try.func6, Try.ntmps6
  go_wp2_with fail
  refine (New_nil room _ hr).mono ?_
  rintro e w1 ⟨rfl, rfl⟩
  go_wp2_with fail
  all_goals
    refine (awake_any _).mono ?_
    rintro e w2 ⟨rfl, hb⟩
    go_wp2_with fail
    go_ret
    exact ⟨rfl, hb⟩
end Go.Proofs.Ytgijaehmffojhaa
