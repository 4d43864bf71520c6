/- One call, of both: all but Swap. -/
import Derived.Test.YtgijaehmffojhaaSays2
namespace Go.Proofs.Ytgijaehmffojhaa
open Go.RowKit
set_option linter.unusedVariables false

/-- The two mailboxes, alike. -/
def Alk (B : Nat) (w0 w : World) (p q : Nat) (room : Int) (i : Int) : Prop :=
  ∃ mv X lv rv R, Pair B w0 w p q mv X lv rv R ∧ Rel X R ∧ R.ms.length ≤ 64 ∧ (R.L.length : Int) ≤ room ∧ R.room = room ∧ R.came ≤ i ∧ 0 ≤ R.ex ∧ R.ex ≤ i

def opv (k m n : Int) (ao : Option Addr) (nl cap : Nat) : Value := .agg #[.int .i64 k, .int .u64 m, .int .i64 n, .slice ao nl cap]

def Rx.putSays (R : Rx) (v : Int) : Int × Rx := if (R.L.length : Int) < R.room then (0, R.put v) else (110, R)

theorem put_b2 {X : Bx} {R : Rx} (hr : Rel X R) (p : Nat) (mv : Value) (v : Int) (w : World) (h : Mb w p mv X) (hl : R.L.length ≤ 1000) :
    Calls Try.prog 10 #[.pointer (some ⟨p, 0, none⟩), .int .u64 v] w fun e w' => e = .returned (.int .i64 (R.putSays v).1) ∧ ∃ Y, MPost p X.ns mv Y w w' ∧ Rel Y (R.putSays v).2 := by
  have h1 := hr.len
  have h2 := hr.room
  unfold Rx.putSays
  by_cases hc : (R.L.length : Int) < R.room
  · rw [if_pos hc]
    exact (Put_room p mv X v w h (by omega) (by omega)).mono fun e w' ⟨h1, N, h2⟩ => ⟨h1, _, h2, hr.put N v⟩
  · rw [if_neg hc]
    exact (Put_full p mv X v w h (by omega)).mono fun e w' ⟨h1, h2⟩ => ⟨h1, _, h2, hr⟩

theorem put_r2 (q : Nat) (lv mv : Value) (R : Rx) (v : Int) (w : World) (h : Rb w q lv mv R) (hl : R.L.length ≤ 1000) (c0 : 0 ≤ R.came) (c1 : R.came ≤ 1152921504606846976) :
    Calls Try.prog 17 #[.pointer (some ⟨q, 0, none⟩), .int .u64 v] w fun e w' => e = .returned (.int .i64 (R.putSays v).1) ∧ RPost q lv mv (R.putSays v).2 w w' := by
  unfold Rx.putSays
  by_cases hc : (R.L.length : Int) < R.room
  · rw [if_pos hc]; exact RPut_room q lv mv R v w h hl hc c0 c1
  · rw [if_neg hc]; exact RPut_full q lv mv R v w h (by omega)

theorem mark_b2 {X : Bx} {R : Rx} (hr : Rel X R) (p : Nat) (mv : Value) (v : Int) (w : World) (h : Mb w p mv X) (hl : R.ms.length ≤ 64) :
    Calls Try.prog 18 #[.pointer (some ⟨p, 0, none⟩), .int .i64 v] w fun e w' => e = .returned (.int .i64 (R.markSays v).1) ∧ ∃ Y, MPost p X.ns mv Y w w' ∧ Rel Y (R.markSays v).2 := by
  have hm := hr.mlen
  obtain ⟨h1, h2⟩ := mark_rel hr v
  rw [← h1]
  exact (mark_b p mv X v w h (by omega)).mono fun e w' ⟨h3, h4⟩ => ⟨h3, _, h4, h2⟩

theorem use_b2 {X : Bx} {R : Rx} (hr : Rel X R) (p : Nat) (mv : Value) (v : Int) (w : World) (h : Mb w p mv X) (hl : R.ms.length ≤ 64) :
    Calls Try.prog 20 #[.pointer (some ⟨p, 0, none⟩), .int .i64 v] w fun e w' => e = .returned (.bool (R.useSays v).1) ∧ ∃ Y, MPost p X.ns mv Y w w' ∧ Rel Y (R.useSays v).2 := by
  have hm := hr.mlen
  obtain ⟨h1, h2⟩ := use_rel hr v
  rw [← h1]
  exact (use_b p mv X v w h (by omega)).mono fun e w' ⟨h3, h4⟩ => ⟨h3, _, h4, h2⟩

theorem forget_b2 {X : Bx} {R : Rx} (hr : Rel X R) (p : Nat) (mv : Value) (v : Int) (w : World) (h : Mb w p mv X) (hl : R.ms.length ≤ 64) :
    Calls Try.prog 31 #[.pointer (some ⟨p, 0, none⟩), .int .i64 v] w fun e w' => e = .returned (.bool (R.forgetSays v).1) ∧ ∃ Y, MPost p X.ns mv Y w w' ∧ Rel Y (R.forgetSays v).2 := by
  have hm := hr.mlen
  obtain ⟨h1, h2⟩ := forget_rel hr v
  rw [← h1]
  exact (forget_b p mv X v w h (by omega)).mono fun e w' ⟨h3, h4⟩ => ⟨h3, _, h4, h2⟩

/-- What one call may do to the bounds. -/
def Grows (R S : Rx) : Prop := S.room = R.room ∧ S.came ≤ R.came + 1 ∧ (S.ex = R.ex ∨ S.ex = R.ex + 1) ∧ (R.ms.length ≤ 64 → S.ms.length ≤ 64) ∧ ((R.L.length : Int) ≤ R.room → (S.L.length : Int) ≤ S.room)

theorem put_grows (R : Rx) (v : Int) : Grows R (R.putSays v).2 := by
  unfold Rx.putSays Grows
  split
  · refine ⟨rfl, Int.le_refl _, .inl rfl, id, fun _ => ?_⟩
    show ((R.L ++ [_]).length : Int) ≤ R.room
    simp; omega
  · exact ⟨rfl, by show R.came ≤ R.came + 1; omega, .inl rfl, id, id⟩
theorem mark_grows (R : Rx) (v : Int) : Grows R (R.markSays v).2 := by
  obtain ⟨h1, h2, h3, h4, h5⟩ := mark_keeps R v
  exact ⟨h2, by omega, .inl h4, h5, by rw [h1, h2]; exact id⟩
theorem use_grows (R : Rx) (v : Int) : Grows R (R.useSays v).2 := by
  obtain ⟨h1, h2, h3, h4, h5⟩ := use_keeps R v
  exact ⟨h2, by omega, .inl h4, by rw [h5]; exact id, by rw [h1, h2]; exact id⟩
theorem forget_grows (R : Rx) (v : Int) : Grows R (R.forgetSays v).2 := by
  obtain ⟨h1, h2, h3, h4, h5⟩ := forget_keeps R v
  exact ⟨h2, by omega, .inl h4, h5, by rw [h1, h2]; exact id⟩
theorem next_grows (R : Rx) : Grows R R.nextSays.2.2 := by
  obtain ⟨h1, h2, h3, h4, h5⟩ := next_keeps R
  exact ⟨h2, by omega, h4, by rw [h5]; exact id, by rw [h1, h2]; exact id⟩

theorem Alk.of {B : Nat} {w0 w : World} {p q : Nat} {room i : Int} {mv : Value} {X : Bx} {lv rv : Value} {R S : Rx} (hP : Pair B w0 w p q mv X lv rv S) (hr : Rel X S) (hg : Grows R S) (h1 : R.ms.length ≤ 64) (h2 : (R.L.length : Int) ≤ room) (h3 : R.room = room) (h4 : R.came ≤ i) (h5 : 0 ≤ R.ex) (h6 : R.ex ≤ i) :
    Alk B w0 w p q room (i + 1) := by
  obtain ⟨g1, g2, g3, g4, g5⟩ := hg
  exact ⟨mv, X, lv, rv, S, hP, hr, g4 h1, by rw [← h3, ← g1]; exact g5 (by omega), by omega, by omega, by omega, by omega⟩

set_option maxHeartbeats 3200000 in
set_option maxRecDepth 100000 in
theorem step_0 (B : Nat) (w0 w : World) (p q : Nat) (room i : Int) (h : Alk B w0 w p q room i) (hroom : room ≤ 32) (hi : i ≤ 1125899906842624) (m n : Int) (ao : Option Addr) (nl cap : Nat) :
    Calls Try.prog 24 #[.pointer (some ⟨p, 0, none⟩), .pointer (some ⟨q, 0, none⟩), opv 0 m n ao nl cap] w fun e w' => e = .returned (.bool true) ∧ Alk B w0 w' p q room (i + 1) := by
  obtain ⟨mv, X, lv, rv, R, hP, hr, a1, a2, a3, a4, a5, a6⟩ := h
  obtain ⟨Z, hZ⟩ : ∃ Z, w.heap.size = Z := ⟨_, rfl⟩
  obtain ⟨w1, hw1⟩ : ∃ w1, w.alloc (.cells #[.int .i64 0, .int .u64 m, .int .i64 n, .slice ao nl cap] 50) = w1 := ⟨_, rfl⟩
  have hx : w1.heap[Z]? = some (.cells #[.int .i64 0, .int .u64 m, .int .i64 n, .slice ao nl cap] 50 (0, 0)) := by subst hw1 hZ; exact heap_alloc_new w _
  have hfe : Fr (fun _ => False) w w1 := by subst hw1; exact (Fr.refl _ w).alloc _
  have hP1 := hP.keep hfe (fun _ _ h => h) (fun _ _ h => h) (fun _ h => h.elim)
  have hlt1 : ¬ mf p X.ns mv Z := fun h => by have := hP.b.m.lt Z h; omega
  have hlt2 : ¬ rf q lv rv Z := fun h => by have := hP.r.lt Z h; omega
  have cx0 := blk_cell hx 0
  have cx1 := blk_cell hx 1
  have cx2 := blk_cell hx 2
  simp at cx0 cx1 cx2
  have c0 := hr.c0
  have hXe := hr.ex
  have hXm := hr.mlen
  have hXL := hr.len
  clear hP hfe
  unfold opv
  go_enter Try.func24, Try.ntmps24
  have hgr := Lib.hid (put_grows R m)
  obtain ⟨z, hz⟩ : ∃ z, (R.putSays m).1 = z := ⟨_, rfl⟩
  have HZ := Lib.hid hz
  clear hz
  go_upto_region 3 with fail
  have hP2 : Pair B w0 w1.drew p q mv X lv rv R := hP1.keep ((Fr.refl (fun _ => False) w1).drew) (fun _ _ h => h) (fun _ _ h => h) (fun _ h => h.elim)
  have hx2 : w1.drew.heap[Z]? = some (.cells #[.int .i64 0, .int .u64 m, .int .i64 n, .slice ao nl cap] 50 (0, 0)) := hx
  have k1 : w1.drew.cell? ⟨Z, 1, none⟩ = some (.int .u64 m) := cx1
  clear hx hP1 hw1 cx0 cx1 cx2
  refine wp_region_ord (Ord.take 0 (.take 1 (.take 2 (.take 4 (.take 5 (.take 6 (.alone 3 (.alone 7 (.take 8 (.take 9 .done))))))))))
    (fun W => W.cell? ⟨Z, 1, none⟩ = some (.int .u64 m)) (by kernel_rfl) (by kernel_rfl) (by kernel_rfl) (fun c a d v w h => by cases d <;> exact h) k1 ?_
  refine ord_take (o := ⟨some 21, _, _, _, _, none⟩) _ rfl (by rfl) (fun W hW => by (go_simp; with_reducible rfl)) ?_
  simp only [Act.put, List.setIfInBounds_toArray, List.set_cons_zero, List.set_cons_succ]
  refine ord_take (o := ⟨some 22, _, _, _, _, none⟩) _ rfl (by rfl) (fun W hW => by (go_simp; with_reducible rfl)) ?_
  simp only [Act.put, List.setIfInBounds_toArray, List.set_cons_zero, List.set_cons_succ]
  refine ord_take (o := ⟨some 23, _, _, _, _, none⟩) _ rfl (by rfl) (fun W hW => by (go_simp; with_reducible rfl)) ?_
  simp only [Act.put, List.setIfInBounds_toArray, List.set_cons_zero, List.set_cons_succ]
  refine ord_take (o := ⟨some 25, _, _, _, _, none⟩) _ rfl (by rfl) (fun W hW => by (go_simp; with_reducible rfl)) ?_
  simp only [Act.put, List.setIfInBounds_toArray, List.set_cons_zero, List.set_cons_succ]
  refine ord_take (o := ⟨some 26, _, _, _, _, none⟩) _ rfl (by rfl) (fun W hW => by (go_simp; with_reducible rfl)) ?_
  simp only [Act.put, List.setIfInBounds_toArray, List.set_cons_zero, List.set_cons_succ]
  refine ord_take (o := ⟨some 27, _, _, _, _, none⟩) _ rfl (by rfl) (fun W hW => by (go_simp; with_reducible rfl)) ?_
  simp only [Act.put, List.setIfInBounds_toArray, List.set_cons_zero, List.set_cons_succ]
  refine ord_alone (o := ⟨some 24, _, _, _, _, none⟩) rfl (by rfl) (fun K hK => ?_)
  go_simp
  refine (put_b2 hr p mv m _ hP2.b.m (by omega)).mono ?_
  rintro e w2 ⟨rfl, Y, hp, hY⟩
  rw [HZ.out]
  obtain ⟨mv3, hP3, hf3⟩ := hP2.stepB hp
  have hx3 := hf3.at hx2 hlt1
  have k1' : w2.cell? ⟨Z, 1, none⟩ = some (.int .u64 m) := by have := blk_cell hx3 1; simpa using this
  refine hK _ _ k1' ?_
  clear hp hK K k1 hP2
  refine ord_alone (o := ⟨some 28, _, _, _, _, none⟩) rfl (by rfl) (fun K hK => ?_)
  go_simp
  refine (put_r2 q lv rv R m _ hP3.r (by omega) c0 (by omega)).mono ?_
  rintro e w3 ⟨rfl, hp⟩
  rw [HZ.out]
  obtain ⟨lv4, rv4, hP4, hf4⟩ := hP3.stepR hp
  have hx4 := hf4.at hx3 hlt2
  have k1 : w3.cell? ⟨Z, 1, none⟩ = some (.int .u64 m) := by have := blk_cell hx4 1; simpa using this
  refine hK _ _ k1 ?_
  clear hp hK K k1' hP3
  refine ord_take (o := ⟨some 29, _, _, _, _, none⟩) _ rfl (by rfl) (fun W hW => by (go_simp; with_reducible rfl)) ?_
  simp only [Act.put, List.setIfInBounds_toArray, List.set_cons_zero, List.set_cons_succ]
  refine ord_take (o := ⟨some 6, _, _, _, _, none⟩) _ rfl (by rfl) (fun W hW => by (go_simp; with_reducible rfl)) ?_
  simp only [Act.put, List.setIfInBounds_toArray, List.set_cons_zero, List.set_cons_succ]
  refine ord_done ?_
  go_wp2_with fail
  go_ret
  exact ⟨rfl, Alk.of hP4 hY hgr.out a1 a2 a3 a4 a5 a6⟩

set_option maxHeartbeats 3200000 in
set_option maxRecDepth 100000 in
theorem step_5 (B : Nat) (w0 w : World) (p q : Nat) (room i : Int) (h : Alk B w0 w p q room i) (hroom : room ≤ 32) (hi : i ≤ 1125899906842624) (m n : Int) (ao : Option Addr) (nl cap : Nat) :
    Calls Try.prog 24 #[.pointer (some ⟨p, 0, none⟩), .pointer (some ⟨q, 0, none⟩), opv 5 m n ao nl cap] w fun e w' => e = .returned (.bool true) ∧ Alk B w0 w' p q room (i + 1) := by
  obtain ⟨mv, X, lv, rv, R, hP, hr, a1, a2, a3, a4, a5, a6⟩ := h
  obtain ⟨Z, hZ⟩ : ∃ Z, w.heap.size = Z := ⟨_, rfl⟩
  obtain ⟨w1, hw1⟩ : ∃ w1, w.alloc (.cells #[.int .i64 5, .int .u64 m, .int .i64 n, .slice ao nl cap] 50) = w1 := ⟨_, rfl⟩
  have hx : w1.heap[Z]? = some (.cells #[.int .i64 5, .int .u64 m, .int .i64 n, .slice ao nl cap] 50 (0, 0)) := by subst hw1 hZ; exact heap_alloc_new w _
  have hfe : Fr (fun _ => False) w w1 := by subst hw1; exact (Fr.refl _ w).alloc _
  have hP1 := hP.keep hfe (fun _ _ h => h) (fun _ _ h => h) (fun _ h => h.elim)
  have hlt1 : ¬ mf p X.ns mv Z := fun h => by have := hP.b.m.lt Z h; omega
  have hlt2 : ¬ rf q lv rv Z := fun h => by have := hP.r.lt Z h; omega
  have cx0 := blk_cell hx 0
  have cx1 := blk_cell hx 1
  have cx2 := blk_cell hx 2
  simp at cx0 cx1 cx2
  have c0 := hr.c0
  have hXe := hr.ex
  have hXm := hr.mlen
  have hXL := hr.len
  clear hP hfe
  unfold opv
  go_enter Try.func24, Try.ntmps24
  have hgr := Lib.hid (mark_grows R n)
  obtain ⟨z, hz⟩ : ∃ z, (R.markSays n).1 = z := ⟨_, rfl⟩
  have HZ := Lib.hid hz
  clear hz
  go_upto_region 18 with fail
  have hP2 : Pair B w0 w1.drew p q mv X lv rv R := hP1.keep ((Fr.refl (fun _ => False) w1).drew) (fun _ _ h => h) (fun _ _ h => h) (fun _ h => h.elim)
  have hx2 : w1.drew.heap[Z]? = some (.cells #[.int .i64 5, .int .u64 m, .int .i64 n, .slice ao nl cap] 50 (0, 0)) := hx
  have k1 : w1.drew.cell? ⟨Z, 2, none⟩ = some (.int .i64 n) := cx2
  clear hx hP1 hw1 cx0 cx1 cx2
  refine wp_region_ord (Ord.take 0 (.take 1 (.take 2 (.take 4 (.take 5 (.take 6 (.alone 3 (.alone 7 (.take 8 (.take 9 .done))))))))))
    (fun W => W.cell? ⟨Z, 2, none⟩ = some (.int .i64 n)) (by kernel_rfl) (by kernel_rfl) (by kernel_rfl) (fun c a d v w h => by cases d <;> exact h) k1 ?_
  refine ord_take (o := ⟨some 82, _, _, _, _, none⟩) _ rfl (by rfl) (fun W hW => by (go_simp; with_reducible rfl)) ?_
  simp only [Act.put, List.setIfInBounds_toArray, List.set_cons_zero, List.set_cons_succ]
  refine ord_take (o := ⟨some 83, _, _, _, _, none⟩) _ rfl (by rfl) (fun W hW => by (go_simp; with_reducible rfl)) ?_
  simp only [Act.put, List.setIfInBounds_toArray, List.set_cons_zero, List.set_cons_succ]
  refine ord_take (o := ⟨some 84, _, _, _, _, none⟩) _ rfl (by rfl) (fun W hW => by (go_simp; with_reducible rfl)) ?_
  simp only [Act.put, List.setIfInBounds_toArray, List.set_cons_zero, List.set_cons_succ]
  refine ord_take (o := ⟨some 86, _, _, _, _, none⟩) _ rfl (by rfl) (fun W hW => by (go_simp; with_reducible rfl)) ?_
  simp only [Act.put, List.setIfInBounds_toArray, List.set_cons_zero, List.set_cons_succ]
  refine ord_take (o := ⟨some 87, _, _, _, _, none⟩) _ rfl (by rfl) (fun W hW => by (go_simp; with_reducible rfl)) ?_
  simp only [Act.put, List.setIfInBounds_toArray, List.set_cons_zero, List.set_cons_succ]
  refine ord_take (o := ⟨some 88, _, _, _, _, none⟩) _ rfl (by rfl) (fun W hW => by (go_simp; with_reducible rfl)) ?_
  simp only [Act.put, List.setIfInBounds_toArray, List.set_cons_zero, List.set_cons_succ]
  refine ord_alone (o := ⟨some 85, _, _, _, _, none⟩) rfl (by rfl) (fun K hK => ?_)
  go_simp
  refine (mark_b2 hr p mv n _ hP2.b.m (by omega)).mono ?_
  rintro e w2 ⟨rfl, Y, hp, hY⟩
  rw [HZ.out]
  obtain ⟨mv3, hP3, hf3⟩ := hP2.stepB hp
  have hx3 := hf3.at hx2 hlt1
  have k1' : w2.cell? ⟨Z, 2, none⟩ = some (.int .i64 n) := by have := blk_cell hx3 2; simpa using this
  refine hK _ _ k1' ?_
  clear hp hK K k1 hP2
  refine ord_alone (o := ⟨some 89, _, _, _, _, none⟩) rfl (by rfl) (fun K hK => ?_)
  go_simp
  refine (mark_r q lv rv R n _ hP3.r (by omega)).mono ?_
  rintro e w3 ⟨rfl, hp⟩
  rw [HZ.out]
  obtain ⟨lv4, rv4, hP4, hf4⟩ := hP3.stepR hp
  have hx4 := hf4.at hx3 hlt2
  have k1 : w3.cell? ⟨Z, 2, none⟩ = some (.int .i64 n) := by have := blk_cell hx4 2; simpa using this
  refine hK _ _ k1 ?_
  clear hp hK K k1' hP3
  refine ord_take (o := ⟨some 90, _, _, _, _, none⟩) _ rfl (by rfl) (fun W hW => by (go_simp; with_reducible rfl)) ?_
  simp only [Act.put, List.setIfInBounds_toArray, List.set_cons_zero, List.set_cons_succ]
  refine ord_take (o := ⟨some 6, _, _, _, _, none⟩) _ rfl (by rfl) (fun W hW => by (go_simp; with_reducible rfl)) ?_
  simp only [Act.put, List.setIfInBounds_toArray, List.set_cons_zero, List.set_cons_succ]
  refine ord_done ?_
  go_wp2_with fail
  go_ret
  exact ⟨rfl, Alk.of hP4 hY hgr.out a1 a2 a3 a4 a5 a6⟩

set_option maxHeartbeats 3200000 in
set_option maxRecDepth 100000 in
theorem step_6 (B : Nat) (w0 w : World) (p q : Nat) (room i : Int) (h : Alk B w0 w p q room i) (hroom : room ≤ 32) (hi : i ≤ 1125899906842624) (m n : Int) (ao : Option Addr) (nl cap : Nat) :
    Calls Try.prog 24 #[.pointer (some ⟨p, 0, none⟩), .pointer (some ⟨q, 0, none⟩), opv 6 m n ao nl cap] w fun e w' => e = .returned (.bool true) ∧ Alk B w0 w' p q room (i + 1) := by
  obtain ⟨mv, X, lv, rv, R, hP, hr, a1, a2, a3, a4, a5, a6⟩ := h
  obtain ⟨Z, hZ⟩ : ∃ Z, w.heap.size = Z := ⟨_, rfl⟩
  obtain ⟨w1, hw1⟩ : ∃ w1, w.alloc (.cells #[.int .i64 6, .int .u64 m, .int .i64 n, .slice ao nl cap] 50) = w1 := ⟨_, rfl⟩
  have hx : w1.heap[Z]? = some (.cells #[.int .i64 6, .int .u64 m, .int .i64 n, .slice ao nl cap] 50 (0, 0)) := by subst hw1 hZ; exact heap_alloc_new w _
  have hfe : Fr (fun _ => False) w w1 := by subst hw1; exact (Fr.refl _ w).alloc _
  have hP1 := hP.keep hfe (fun _ _ h => h) (fun _ _ h => h) (fun _ h => h.elim)
  have hlt1 : ¬ mf p X.ns mv Z := fun h => by have := hP.b.m.lt Z h; omega
  have hlt2 : ¬ rf q lv rv Z := fun h => by have := hP.r.lt Z h; omega
  have cx0 := blk_cell hx 0
  have cx1 := blk_cell hx 1
  have cx2 := blk_cell hx 2
  simp at cx0 cx1 cx2
  have c0 := hr.c0
  have hXe := hr.ex
  have hXm := hr.mlen
  have hXL := hr.len
  clear hP hfe
  unfold opv
  go_enter Try.func24, Try.ntmps24
  have hgr := Lib.hid (use_grows R n)
  obtain ⟨z, hz⟩ : ∃ z, (R.useSays n).1 = z := ⟨_, rfl⟩
  have HZ := Lib.hid hz
  clear hz
  go_upto_region 20 with fail
  have hP2 : Pair B w0 w1.drew p q mv X lv rv R := hP1.keep ((Fr.refl (fun _ => False) w1).drew) (fun _ _ h => h) (fun _ _ h => h) (fun _ h => h.elim)
  have hx2 : w1.drew.heap[Z]? = some (.cells #[.int .i64 6, .int .u64 m, .int .i64 n, .slice ao nl cap] 50 (0, 0)) := hx
  have k1 : w1.drew.cell? ⟨Z, 2, none⟩ = some (.int .i64 n) := cx2
  clear hx hP1 hw1 cx0 cx1 cx2
  refine wp_region_ord (Ord.take 0 (.take 1 (.take 2 (.take 4 (.take 5 (.take 6 (.alone 3 (.alone 7 (.take 8 (.take 9 .done))))))))))
    (fun W => W.cell? ⟨Z, 2, none⟩ = some (.int .i64 n)) (by kernel_rfl) (by kernel_rfl) (by kernel_rfl) (fun c a d v w h => by cases d <;> exact h) k1 ?_
  refine ord_take (o := ⟨some 93, _, _, _, _, none⟩) _ rfl (by rfl) (fun W hW => by (go_simp; with_reducible rfl)) ?_
  simp only [Act.put, List.setIfInBounds_toArray, List.set_cons_zero, List.set_cons_succ]
  refine ord_take (o := ⟨some 94, _, _, _, _, none⟩) _ rfl (by rfl) (fun W hW => by (go_simp; with_reducible rfl)) ?_
  simp only [Act.put, List.setIfInBounds_toArray, List.set_cons_zero, List.set_cons_succ]
  refine ord_take (o := ⟨some 95, _, _, _, _, none⟩) _ rfl (by rfl) (fun W hW => by (go_simp; with_reducible rfl)) ?_
  simp only [Act.put, List.setIfInBounds_toArray, List.set_cons_zero, List.set_cons_succ]
  refine ord_take (o := ⟨some 97, _, _, _, _, none⟩) _ rfl (by rfl) (fun W hW => by (go_simp; with_reducible rfl)) ?_
  simp only [Act.put, List.setIfInBounds_toArray, List.set_cons_zero, List.set_cons_succ]
  refine ord_take (o := ⟨some 98, _, _, _, _, none⟩) _ rfl (by rfl) (fun W hW => by (go_simp; with_reducible rfl)) ?_
  simp only [Act.put, List.setIfInBounds_toArray, List.set_cons_zero, List.set_cons_succ]
  refine ord_take (o := ⟨some 99, _, _, _, _, none⟩) _ rfl (by rfl) (fun W hW => by (go_simp; with_reducible rfl)) ?_
  simp only [Act.put, List.setIfInBounds_toArray, List.set_cons_zero, List.set_cons_succ]
  refine ord_alone (o := ⟨some 96, _, _, _, _, none⟩) rfl (by rfl) (fun K hK => ?_)
  go_simp
  refine (use_b2 hr p mv n _ hP2.b.m (by omega)).mono ?_
  rintro e w2 ⟨rfl, Y, hp, hY⟩
  rw [HZ.out]
  obtain ⟨mv3, hP3, hf3⟩ := hP2.stepB hp
  have hx3 := hf3.at hx2 hlt1
  have k1' : w2.cell? ⟨Z, 2, none⟩ = some (.int .i64 n) := by have := blk_cell hx3 2; simpa using this
  refine hK _ _ k1' ?_
  clear hp hK K k1 hP2
  refine ord_alone (o := ⟨some 100, _, _, _, _, none⟩) rfl (by rfl) (fun K hK => ?_)
  go_simp
  refine (use_r q lv rv R n _ hP3.r (by omega)).mono ?_
  rintro e w3 ⟨rfl, hp⟩
  rw [HZ.out]
  obtain ⟨lv4, rv4, hP4, hf4⟩ := hP3.stepR hp
  have hx4 := hf4.at hx3 hlt2
  have k1 : w3.cell? ⟨Z, 2, none⟩ = some (.int .i64 n) := by have := blk_cell hx4 2; simpa using this
  refine hK _ _ k1 ?_
  clear hp hK K k1' hP3
  refine ord_take (o := ⟨some 101, _, _, _, _, none⟩) _ rfl (by rfl) (fun W hW => by (go_simp; with_reducible rfl)) ?_
  simp only [Act.put, List.setIfInBounds_toArray, List.set_cons_zero, List.set_cons_succ]
  refine ord_take (o := ⟨some 6, _, _, _, _, none⟩) _ rfl (by rfl) (fun W hW => by (go_simp; with_reducible rfl)) ?_
  simp only [Act.put, List.setIfInBounds_toArray, List.set_cons_zero, List.set_cons_succ]
  refine ord_done ?_
  go_wp2_with fail
  go_ret
  exact ⟨rfl, Alk.of hP4 hY hgr.out a1 a2 a3 a4 a5 a6⟩

set_option maxHeartbeats 3200000 in
set_option maxRecDepth 100000 in
theorem step_7 (B : Nat) (w0 w : World) (p q : Nat) (room i : Int) (h : Alk B w0 w p q room i) (hroom : room ≤ 32) (hi : i ≤ 1125899906842624) (m n : Int) (ao : Option Addr) (nl cap : Nat) :
    Calls Try.prog 24 #[.pointer (some ⟨p, 0, none⟩), .pointer (some ⟨q, 0, none⟩), opv 7 m n ao nl cap] w fun e w' => e = .returned (.bool true) ∧ Alk B w0 w' p q room (i + 1) := by
  obtain ⟨mv, X, lv, rv, R, hP, hr, a1, a2, a3, a4, a5, a6⟩ := h
  obtain ⟨Z, hZ⟩ : ∃ Z, w.heap.size = Z := ⟨_, rfl⟩
  obtain ⟨w1, hw1⟩ : ∃ w1, w.alloc (.cells #[.int .i64 7, .int .u64 m, .int .i64 n, .slice ao nl cap] 50) = w1 := ⟨_, rfl⟩
  have hx : w1.heap[Z]? = some (.cells #[.int .i64 7, .int .u64 m, .int .i64 n, .slice ao nl cap] 50 (0, 0)) := by subst hw1 hZ; exact heap_alloc_new w _
  have hfe : Fr (fun _ => False) w w1 := by subst hw1; exact (Fr.refl _ w).alloc _
  have hP1 := hP.keep hfe (fun _ _ h => h) (fun _ _ h => h) (fun _ h => h.elim)
  have hlt1 : ¬ mf p X.ns mv Z := fun h => by have := hP.b.m.lt Z h; omega
  have hlt2 : ¬ rf q lv rv Z := fun h => by have := hP.r.lt Z h; omega
  have cx0 := blk_cell hx 0
  have cx1 := blk_cell hx 1
  have cx2 := blk_cell hx 2
  simp at cx0 cx1 cx2
  have c0 := hr.c0
  have hXe := hr.ex
  have hXm := hr.mlen
  have hXL := hr.len
  clear hP hfe
  unfold opv
  go_enter Try.func24, Try.ntmps24
  have hgr := Lib.hid (forget_grows R n)
  obtain ⟨z, hz⟩ : ∃ z, (R.forgetSays n).1 = z := ⟨_, rfl⟩
  have HZ := Lib.hid hz
  clear hz
  go_upto_region 22 with fail
  have hP2 : Pair B w0 w1.drew p q mv X lv rv R := hP1.keep ((Fr.refl (fun _ => False) w1).drew) (fun _ _ h => h) (fun _ _ h => h) (fun _ h => h.elim)
  have hx2 : w1.drew.heap[Z]? = some (.cells #[.int .i64 7, .int .u64 m, .int .i64 n, .slice ao nl cap] 50 (0, 0)) := hx
  have k1 : w1.drew.cell? ⟨Z, 2, none⟩ = some (.int .i64 n) := cx2
  clear hx hP1 hw1 cx0 cx1 cx2
  refine wp_region_ord (Ord.take 0 (.take 1 (.take 2 (.take 4 (.take 5 (.take 6 (.alone 3 (.alone 7 (.take 8 (.take 9 .done))))))))))
    (fun W => W.cell? ⟨Z, 2, none⟩ = some (.int .i64 n)) (by kernel_rfl) (by kernel_rfl) (by kernel_rfl) (fun c a d v w h => by cases d <;> exact h) k1 ?_
  refine ord_take (o := ⟨some 104, _, _, _, _, none⟩) _ rfl (by rfl) (fun W hW => by (go_simp; with_reducible rfl)) ?_
  simp only [Act.put, List.setIfInBounds_toArray, List.set_cons_zero, List.set_cons_succ]
  refine ord_take (o := ⟨some 105, _, _, _, _, none⟩) _ rfl (by rfl) (fun W hW => by (go_simp; with_reducible rfl)) ?_
  simp only [Act.put, List.setIfInBounds_toArray, List.set_cons_zero, List.set_cons_succ]
  refine ord_take (o := ⟨some 106, _, _, _, _, none⟩) _ rfl (by rfl) (fun W hW => by (go_simp; with_reducible rfl)) ?_
  simp only [Act.put, List.setIfInBounds_toArray, List.set_cons_zero, List.set_cons_succ]
  refine ord_take (o := ⟨some 108, _, _, _, _, none⟩) _ rfl (by rfl) (fun W hW => by (go_simp; with_reducible rfl)) ?_
  simp only [Act.put, List.setIfInBounds_toArray, List.set_cons_zero, List.set_cons_succ]
  refine ord_take (o := ⟨some 109, _, _, _, _, none⟩) _ rfl (by rfl) (fun W hW => by (go_simp; with_reducible rfl)) ?_
  simp only [Act.put, List.setIfInBounds_toArray, List.set_cons_zero, List.set_cons_succ]
  refine ord_take (o := ⟨some 110, _, _, _, _, none⟩) _ rfl (by rfl) (fun W hW => by (go_simp; with_reducible rfl)) ?_
  simp only [Act.put, List.setIfInBounds_toArray, List.set_cons_zero, List.set_cons_succ]
  refine ord_alone (o := ⟨some 107, _, _, _, _, none⟩) rfl (by rfl) (fun K hK => ?_)
  go_simp
  refine (forget_b2 hr p mv n _ hP2.b.m (by omega)).mono ?_
  rintro e w2 ⟨rfl, Y, hp, hY⟩
  rw [HZ.out]
  obtain ⟨mv3, hP3, hf3⟩ := hP2.stepB hp
  have hx3 := hf3.at hx2 hlt1
  have k1' : w2.cell? ⟨Z, 2, none⟩ = some (.int .i64 n) := by have := blk_cell hx3 2; simpa using this
  refine hK _ _ k1' ?_
  clear hp hK K k1 hP2
  refine ord_alone (o := ⟨some 111, _, _, _, _, none⟩) rfl (by rfl) (fun K hK => ?_)
  go_simp
  refine (forget_r q lv rv R n _ hP3.r (by omega)).mono ?_
  rintro e w3 ⟨rfl, hp⟩
  rw [HZ.out]
  obtain ⟨lv4, rv4, hP4, hf4⟩ := hP3.stepR hp
  have hx4 := hf4.at hx3 hlt2
  have k1 : w3.cell? ⟨Z, 2, none⟩ = some (.int .i64 n) := by have := blk_cell hx4 2; simpa using this
  refine hK _ _ k1 ?_
  clear hp hK K k1' hP3
  refine ord_take (o := ⟨some 112, _, _, _, _, none⟩) _ rfl (by rfl) (fun W hW => by (go_simp; with_reducible rfl)) ?_
  simp only [Act.put, List.setIfInBounds_toArray, List.set_cons_zero, List.set_cons_succ]
  refine ord_take (o := ⟨some 6, _, _, _, _, none⟩) _ rfl (by rfl) (fun W hW => by (go_simp; with_reducible rfl)) ?_
  simp only [Act.put, List.setIfInBounds_toArray, List.set_cons_zero, List.set_cons_succ]
  refine ord_done ?_
  go_wp2_with fail
  go_ret
  exact ⟨rfl, Alk.of hP4 hY hgr.out a1 a2 a3 a4 a5 a6⟩

set_option maxHeartbeats 3200000 in
set_option maxRecDepth 100000 in
theorem step_1 (B : Nat) (w0 w : World) (p q : Nat) (room i : Int) (h : Alk B w0 w p q room i) (hroom : room ≤ 32) (hi : i ≤ 1125899906842624) (m n : Int) (ao : Option Addr) (nl cap : Nat) :
    Calls Try.prog 24 #[.pointer (some ⟨p, 0, none⟩), .pointer (some ⟨q, 0, none⟩), opv 1 m n ao nl cap] w fun e w' => e = .returned (.bool true) ∧ Alk B w0 w' p q room (i + 1) := by
  obtain ⟨mv, X, lv, rv, R, hP, hr, a1, a2, a3, a4, a5, a6⟩ := h
  obtain ⟨Z, hZ⟩ : ∃ Z, w.heap.size = Z := ⟨_, rfl⟩
  obtain ⟨w1, hw1⟩ : ∃ w1, w.alloc (.cells #[.int .i64 1, .int .u64 m, .int .i64 n, .slice ao nl cap] 50) = w1 := ⟨_, rfl⟩
  have hx : w1.heap[Z]? = some (.cells #[.int .i64 1, .int .u64 m, .int .i64 n, .slice ao nl cap] 50 (0, 0)) := by subst hw1 hZ; exact heap_alloc_new w _
  have hfe : Fr (fun _ => False) w w1 := by subst hw1; exact (Fr.refl _ w).alloc _
  have hP1 := hP.keep hfe (fun _ _ h => h) (fun _ _ h => h) (fun _ h => h.elim)
  have hlt1 : ¬ mf p X.ns mv Z := fun h => by have := hP.b.m.lt Z h; omega
  have hlt2 : ¬ rf q lv rv Z := fun h => by have := hP.r.lt Z h; omega
  have cx0 := blk_cell hx 0
  have cx1 := blk_cell hx 1
  have cx2 := blk_cell hx 2
  simp at cx0 cx1 cx2
  have c0 := hr.c0
  have hXe := hr.ex
  have hXm := hr.mlen
  have hXL := hr.len
  clear hP hfe
  unfold opv
  go_enter Try.func24, Try.ntmps24
  have hgr := Lib.hid (next_grows R)
  have HN := Lib.hid (next_rel hr)
  go_wp2_with fail
  refine (next_b p mv X _ hP1.b.m (by omega) (by omega)).mono ?_
  rintro e w2 ⟨rfl, hp⟩
  obtain ⟨mv3, hP3, hf3⟩ := hP1.stepB hp
  clear hp hP1
  rw [HN.out.1, HN.out.2.1]
  go_wp2_with fail
  refine (next_r q lv rv R _ hP3.r (by omega) (by omega) (by omega)).mono ?_
  rintro e w3 ⟨rfl, hp⟩
  obtain ⟨lv4, rv4, hP4, hf4⟩ := hP3.stepR hp
  clear hp hP3
  generalize R.nextSays.1 = nx
  generalize R.nextSays.2.1 = nb
  go_wp2_with fail
  go_ret
  exact ⟨rfl, Alk.of hP4 HN.out.2.2 hgr.out a1 a2 a3 a4 a5 a6⟩

set_option maxHeartbeats 3200000 in
set_option maxRecDepth 100000 in
theorem step_2 (B : Nat) (w0 w : World) (p q : Nat) (room i : Int) (h : Alk B w0 w p q room i) (hroom : room ≤ 32) (hi : i ≤ 1125899906842624) (m n : Int) (ao : Option Addr) (nl cap : Nat) :
    Calls Try.prog 24 #[.pointer (some ⟨p, 0, none⟩), .pointer (some ⟨q, 0, none⟩), opv 2 m n ao nl cap] w fun e w' => e = .returned (.bool true) ∧ Alk B w0 w' p q room (i + 1) := by
  obtain ⟨mv, X, lv, rv, R, hP, hr, a1, a2, a3, a4, a5, a6⟩ := h
  obtain ⟨Z, hZ⟩ : ∃ Z, w.heap.size = Z := ⟨_, rfl⟩
  obtain ⟨w1, hw1⟩ : ∃ w1, w.alloc (.cells #[.int .i64 2, .int .u64 m, .int .i64 n, .slice ao nl cap] 50) = w1 := ⟨_, rfl⟩
  have hx : w1.heap[Z]? = some (.cells #[.int .i64 2, .int .u64 m, .int .i64 n, .slice ao nl cap] 50 (0, 0)) := by subst hw1 hZ; exact heap_alloc_new w _
  have hfe : Fr (fun _ => False) w w1 := by subst hw1; exact (Fr.refl _ w).alloc _
  have hP1 := hP.keep hfe (fun _ _ h => h) (fun _ _ h => h) (fun _ h => h.elim)
  have hlt1 : ¬ mf p X.ns mv Z := fun h => by have := hP.b.m.lt Z h; omega
  have hlt2 : ¬ rf q lv rv Z := fun h => by have := hP.r.lt Z h; omega
  have cx0 := blk_cell hx 0
  have cx1 := blk_cell hx 1
  have cx2 := blk_cell hx 2
  simp at cx0 cx1 cx2
  have c0 := hr.c0
  have hXe := hr.ex
  have hXm := hr.mlen
  have hXL := hr.len
  clear hP hfe
  unfold opv
  go_enter Try.func24, Try.ntmps24
  obtain ⟨S, hS, s1, s2, s3, s4, s5, _⟩ := take_r hr hP1.b.m.last q lv rv _ hP1.r (by omega)
  have hgr := Lib.hid (show Grows R S from ⟨s5, by omega, .inl s2, s3, fun h => by omega⟩)
  have HS := Lib.hid hS
  clear hS
  go_wp2_with fail
  refine (take_b p mv X _ hP1.b.m (by omega)).mono ?_
  rintro e w2 ⟨rfl, hp⟩
  have hle := hP1.b.m.last
  obtain ⟨mv3, hP3, hf3⟩ := hP1.stepB hp
  obtain ⟨S2, hS2, t1, t2, t3, t4, t5, hcall⟩ := take_r hr hle q lv rv _ hP3.r (by omega)
  have hgr2 := Lib.hid (show Grows R S2 from ⟨t5, by omega, .inl t2, t3, fun h => by omega⟩)
  have HS2 := Lib.hid hS2
  clear hp hP1 hS2
  go_wp2_with fail
  refine hcall.mono ?_
  rintro e w3 ⟨rfl, hp⟩
  obtain ⟨lv4, rv4, hP4, hf4⟩ := hP3.stepR hp
  clear hp hP3 hcall
  generalize hn1 : X.takeSays.1 = nx
  generalize hn2 : X.takeSays.2.1 = nb
  clear hn1 hn2
  go_wp2_with fail
  go_ret
  exact ⟨rfl, Alk.of hP4 HS2.out hgr2.out a1 a2 a3 a4 a5 a6⟩

set_option maxHeartbeats 3200000 in
set_option maxRecDepth 100000 in
theorem step_3 (B : Nat) (w0 w : World) (p q : Nat) (room i : Int) (h : Alk B w0 w p q room i) (hroom : room ≤ 32) (hi : i ≤ 1125899906842624) (m n : Int) (ao : Option Addr) (nl cap : Nat) :
    Calls Try.prog 24 #[.pointer (some ⟨p, 0, none⟩), .pointer (some ⟨q, 0, none⟩), opv 3 m n ao nl cap] w fun e w' => e = .returned (.bool true) ∧ Alk B w0 w' p q room (i + 1) := by
  obtain ⟨mv, X, lv, rv, R, hP, hr, a1, a2, a3, a4, a5, a6⟩ := h
  obtain ⟨Z, hZ⟩ : ∃ Z, w.heap.size = Z := ⟨_, rfl⟩
  obtain ⟨w1, hw1⟩ : ∃ w1, w.alloc (.cells #[.int .i64 3, .int .u64 m, .int .i64 n, .slice ao nl cap] 50) = w1 := ⟨_, rfl⟩
  have hx : w1.heap[Z]? = some (.cells #[.int .i64 3, .int .u64 m, .int .i64 n, .slice ao nl cap] 50 (0, 0)) := by subst hw1 hZ; exact heap_alloc_new w _
  have hfe : Fr (fun _ => False) w w1 := by subst hw1; exact (Fr.refl _ w).alloc _
  have hP1 := hP.keep hfe (fun _ _ h => h) (fun _ _ h => h) (fun _ h => h.elim)
  have hlt1 : ¬ mf p X.ns mv Z := fun h => by have := hP.b.m.lt Z h; omega
  have hlt2 : ¬ rf q lv rv Z := fun h => by have := hP.r.lt Z h; omega
  have cx0 := blk_cell hx 0
  have cx1 := blk_cell hx 1
  have cx2 := blk_cell hx 2
  simp at cx0 cx1 cx2
  have c0 := hr.c0
  have hXe := hr.ex
  have hXm := hr.mlen
  have hXL := hr.len
  clear hP hfe
  unfold opv
  go_enter Try.func24, Try.ntmps24
  go_wp2_with fail
  refine (Wait_any _ _).mono ?_
  rintro e w2 ⟨rfl, rfl⟩
  go_wp2_with fail
  go_ret
  exact ⟨rfl, Alk.of hP1 hr (show Grows R R from ⟨rfl, by omega, .inl rfl, id, id⟩) a1 a2 a3 a4 a5 a6⟩

set_option maxHeartbeats 3200000 in
set_option maxRecDepth 100000 in
theorem step_4 (B : Nat) (w0 w : World) (p q : Nat) (room i : Int) (h : Alk B w0 w p q room i) (hroom : room ≤ 32) (hi : i ≤ 1125899906842624) (m n : Int) (ao : Option Addr) (nl cap : Nat) :
    Calls Try.prog 24 #[.pointer (some ⟨p, 0, none⟩), .pointer (some ⟨q, 0, none⟩), opv 4 m n ao nl cap] w fun e w' => e = .returned (.bool true) ∧ Alk B w0 w' p q room (i + 1) := by
  obtain ⟨mv, X, lv, rv, R, hP, hr, a1, a2, a3, a4, a5, a6⟩ := h
  obtain ⟨Z, hZ⟩ : ∃ Z, w.heap.size = Z := ⟨_, rfl⟩
  obtain ⟨w1, hw1⟩ : ∃ w1, w.alloc (.cells #[.int .i64 4, .int .u64 m, .int .i64 n, .slice ao nl cap] 50) = w1 := ⟨_, rfl⟩
  have hx : w1.heap[Z]? = some (.cells #[.int .i64 4, .int .u64 m, .int .i64 n, .slice ao nl cap] 50 (0, 0)) := by subst hw1 hZ; exact heap_alloc_new w _
  have hfe : Fr (fun _ => False) w w1 := by subst hw1; exact (Fr.refl _ w).alloc _
  have hP1 := hP.keep hfe (fun _ _ h => h) (fun _ _ h => h) (fun _ h => h.elim)
  have hlt1 : ¬ mf p X.ns mv Z := fun h => by have := hP.b.m.lt Z h; omega
  have hlt2 : ¬ rf q lv rv Z := fun h => by have := hP.r.lt Z h; omega
  have cx0 := blk_cell hx 0
  have cx1 := blk_cell hx 1
  have cx2 := blk_cell hx 2
  simp at cx0 cx1 cx2
  have c0 := hr.c0
  have hXe := hr.ex
  have hXm := hr.mlen
  have hXL := hr.len
  clear hP hfe
  unfold opv
  go_enter Try.func24, Try.ntmps24
  go_wp2_with fail
  refine (Stop_any p mv X _ hP1.b.m).mono ?_
  rintro e w2 ⟨rfl, hp⟩
  obtain ⟨mv3, hP3, hf3⟩ := hP1.stepB hp
  clear hp hP1
  go_wp2_with fail
  refine (RStop_any q lv rv R _ hP3.r).mono ?_
  rintro e w3 ⟨rfl, hp⟩
  obtain ⟨lv4, rv4, hP4, hf4⟩ := hP3.stepR hp
  clear hp hP3
  go_wp2_with fail
  go_ret
  exact ⟨rfl, Alk.of hP4 hr.stopped (show Grows R R.stopped from ⟨rfl, by show R.came ≤ R.came + 1; omega, .inl rfl, fun _ => Nat.zero_le _, fun h => by exact h⟩) a1 a2 a3 a4 a5 a6⟩

set_option maxHeartbeats 3200000 in
set_option maxRecDepth 100000 in
theorem step_9 (B : Nat) (w0 w : World) (p q : Nat) (room i : Int) (h : Alk B w0 w p q room i) (hroom : room ≤ 32) (hi : i ≤ 1125899906842624) (m n : Int) (ao : Option Addr) (nl cap : Nat) :
    Calls Try.prog 24 #[.pointer (some ⟨p, 0, none⟩), .pointer (some ⟨q, 0, none⟩), opv 9 m n ao nl cap] w fun e w' => e = .returned (.bool true) ∧ Alk B w0 w' p q room (i + 1) := by
  obtain ⟨mv, X, lv, rv, R, hP, hr, a1, a2, a3, a4, a5, a6⟩ := h
  obtain ⟨Z, hZ⟩ : ∃ Z, w.heap.size = Z := ⟨_, rfl⟩
  obtain ⟨w1, hw1⟩ : ∃ w1, w.alloc (.cells #[.int .i64 9, .int .u64 m, .int .i64 n, .slice ao nl cap] 50) = w1 := ⟨_, rfl⟩
  have hx : w1.heap[Z]? = some (.cells #[.int .i64 9, .int .u64 m, .int .i64 n, .slice ao nl cap] 50 (0, 0)) := by subst hw1 hZ; exact heap_alloc_new w _
  have hfe : Fr (fun _ => False) w w1 := by subst hw1; exact (Fr.refl _ w).alloc _
  have hP1 := hP.keep hfe (fun _ _ h => h) (fun _ _ h => h) (fun _ h => h.elim)
  have hlt1 : ¬ mf p X.ns mv Z := fun h => by have := hP.b.m.lt Z h; omega
  have hlt2 : ¬ rf q lv rv Z := fun h => by have := hP.r.lt Z h; omega
  have cx0 := blk_cell hx 0
  have cx1 := blk_cell hx 1
  have cx2 := blk_cell hx 2
  simp at cx0 cx1 cx2
  have c0 := hr.c0
  have hXe := hr.ex
  have hXm := hr.mlen
  have hXL := hr.len
  clear hP hfe
  unfold opv
  go_enter Try.func24, Try.ntmps24
  go_wp2_with fail
  refine (Drop_any p mv X _ hP1.b.m).mono ?_
  rintro e w2 ⟨rfl, hp⟩
  obtain ⟨mv3, hP3, hf3⟩ := hP1.stepB hp
  clear hp hP1
  go_wp2_with fail
  refine (RDrop_any q lv rv R _ hP3.r).mono ?_
  rintro e w3 ⟨rfl, hp⟩
  obtain ⟨lv4, rv4, hP4, hf4⟩ := hP3.stepR hp
  clear hp hP3
  go_wp2_with fail
  go_ret
  exact ⟨rfl, Alk.of hP4 hr.dropped (show Grows R R.dropped from ⟨rfl, by show R.came ≤ R.came + 1; omega, .inl rfl, fun _ => Nat.zero_le _, fun h => by show ((0 : Nat) : Int) ≤ R.room; omega⟩) a1 a2 a3 a4 a5 a6⟩

theorem step_other (B : Nat) (w0 w : World) (p q : Nat) (room i : Int) (h : Alk B w0 w p q room i) (k m n : Int) (ao : Option Addr) (nl cap : Nat) (hk : k < 0 ∨ 9 < k) :
    Calls Try.prog 24 #[.pointer (some ⟨p, 0, none⟩), .pointer (some ⟨q, 0, none⟩), opv k m n ao nl cap] w fun e w' => e = .returned (.bool true) ∧ Alk B w0 w' p q room (i + 1) := by
  obtain ⟨mv, X, lv, rv, R, hP, hr, a1, a2, a3, a4, a5, a6⟩ := h
  obtain ⟨Z, hZ⟩ : ∃ Z, w.heap.size = Z := ⟨_, rfl⟩
  obtain ⟨w1, hw1⟩ : ∃ w1, w.alloc (.cells #[.int .i64 k, .int .u64 m, .int .i64 n, .slice ao nl cap] 50) = w1 := ⟨_, rfl⟩
  have hx : w1.heap[Z]? = some (.cells #[.int .i64 k, .int .u64 m, .int .i64 n, .slice ao nl cap] 50 (0, 0)) := by subst hw1 hZ; exact heap_alloc_new w _
  have hfe : Fr (fun _ => False) w w1 := by subst hw1; exact (Fr.refl _ w).alloc _
  have hP1 := hP.keep hfe (fun _ _ h => h) (fun _ _ h => h) (fun _ h => h.elim)
  have cx0 := blk_cell hx 0
  simp at cx0
  have k0 : ¬ k = 0 := by omega
  have k1 : ¬ k = 1 := by omega
  have k2 : ¬ k = 2 := by omega
  have k3 : ¬ k = 3 := by omega
  have k4 : ¬ k = 4 := by omega
  have k5 : ¬ k = 5 := by omega
  have k6 : ¬ k = 6 := by omega
  have k7 : ¬ k = 7 := by omega
  have k8 : ¬ k = 8 := by omega
  have k9 : ¬ k = 9 := by omega
  clear hP hfe hk
  unfold opv
  go_enter Try.func24, Try.ntmps24
  go_wp2_with fail
  go_ret
  exact ⟨rfl, Alk.of hP1 hr (show Grows R R from ⟨rfl, by omega, .inl rfl, id, id⟩) a1 a2 a3 a4 a5 a6⟩
end Go.Proofs.Ytgijaehmffojhaa
