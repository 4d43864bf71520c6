/- One call, of both: Next, Take, Wait, Stop, Mark, Use, Forget, Drop. -/
import Derived.Test.YtbedgeimpobhdaaStep
namespace Go.Proofs.Ytbedgeimpobhdaa
open Go.RowKit
set_option linter.unusedVariables false

set_option maxHeartbeats 3200000 in
set_option maxRecDepth 100000 in
theorem step_1 (B : Nat) (w0 w : World) (p q : Nat) (room : Int) (at_ : Nat) (ex : Int) (l : List Int) (h : Two B w0 w p q room at_ ex l) (hroom : room ≤ 32) (m n : Int) (ao : Option Addr) (nl cap : Nat) :
    Calls Try.prog 19 #[.pointer (some ⟨p, 0, none⟩), .pointer (some ⟨q, 0, none⟩), opv 1 m n ao nl cap] w fun e w' => StepPost B w0 p q room e w' := by
  obtain ⟨sl1, sl2, hP, hat, hlr⟩ := h
  obtain ⟨X, hX⟩ : ∃ X, w.heap.size = X := ⟨_, rfl⟩
  obtain ⟨w1, hw1⟩ : ∃ w1, w.alloc (.cells #[.int .i64 1, .int .u64 m, .int .i64 n, .slice ao nl cap] 48) = w1 := ⟨_, rfl⟩
  have hx : w1.heap[X]? = some (.cells #[.int .i64 1, .int .u64 m, .int .i64 n, .slice ao nl cap] 48 (0, 0)) := by subst hw1 hX; exact heap_alloc_new w _
  have hf1 : Fr (fun _ => False) w w1 := by subst hw1; exact (Fr.refl _ w).alloc _
  have hP1 := hP.keep hf1 (fun _ _ h => h) (fun _ _ h => h) (fun _ h => h.elim)
  have hlt := hP.lt
  rw [hX] at hlt
  obtain ⟨hlt1, hlt2⟩ := hlt
  have cx0 := blk_cell hx 0
  simp at cx0
  clear hP hf1
  unfold opv
  by_cases hn : at_ < l.length
  · obtain ⟨x, hx2⟩ : ∃ x, l[at_]? = some x := ⟨l[at_], List.getElem?_eq_getElem _⟩
    have HX := Lib.hid hx2
    clear hx2
    go_enter Try.func19, Try.ntmps19
    go_wp2_with fail
    refine (Next_more p room at_ ex l _ _ hP1.b.box x HX.out (by omega)).mono ?_
    rintro e w2 ⟨rfl, hp⟩
    obtain ⟨sl3, hP3, _⟩ := hP1.stepB hp
    clear hp hP1 cx0 hw1
    go_wp2_with fail
    refine (RNext_more q room at_ _ ex l _ _ hP3.r x HX.out (by omega)).mono ?_
    rintro e w3 ⟨rfl, hp⟩
    obtain ⟨sl4, hP4, _⟩ := hP3.stepR hp
    clear hp hP3
    go_wp2_with fail
    go_ret
    exact ⟨rfl, at_ + 1, _, l, sl3, sl4, by rw [show ((at_ + 1 : Nat) : Int) - 1 = at_ by omega]; exact hP4, by omega, hlr⟩
  · go_enter Try.func19, Try.ntmps19
    go_wp2_with fail
    refine (Next_none p room at_ ex l _ _ hP1.b.box (by omega)).mono ?_
    rintro e w2 ⟨rfl, hp⟩
    obtain ⟨sl3, hP3, _⟩ := hP1.stepB hp
    clear hp hP1 cx0 hw1
    go_wp2_with fail
    refine (RNext_none q room at_ _ ex l _ _ hP3.r (by omega)).mono ?_
    rintro e w3 ⟨rfl, hp⟩
    obtain ⟨sl4, hP4, _⟩ := hP3.stepR hp
    clear hp hP3
    go_wp2_with fail
    go_ret
    exact ⟨rfl, at_, ex, l, sl3, sl4, hP4, hat, hlr⟩

set_option maxHeartbeats 3200000 in
set_option maxRecDepth 100000 in
theorem step_2 (B : Nat) (w0 w : World) (p q : Nat) (room : Int) (at_ : Nat) (ex : Int) (l : List Int) (h : Two B w0 w p q room at_ ex l) (hroom : room ≤ 32) (m n : Int) (ao : Option Addr) (nl cap : Nat) :
    Calls Try.prog 19 #[.pointer (some ⟨p, 0, none⟩), .pointer (some ⟨q, 0, none⟩), opv 2 m n ao nl cap] w fun e w' => StepPost B w0 p q room e w' := by
  obtain ⟨sl1, sl2, hP, hat, hlr⟩ := h
  obtain ⟨X, hX⟩ : ∃ X, w.heap.size = X := ⟨_, rfl⟩
  obtain ⟨w1, hw1⟩ : ∃ w1, w.alloc (.cells #[.int .i64 2, .int .u64 m, .int .i64 n, .slice ao nl cap] 48) = w1 := ⟨_, rfl⟩
  have hx : w1.heap[X]? = some (.cells #[.int .i64 2, .int .u64 m, .int .i64 n, .slice ao nl cap] 48 (0, 0)) := by subst hw1 hX; exact heap_alloc_new w _
  have hf1 : Fr (fun _ => False) w w1 := by subst hw1; exact (Fr.refl _ w).alloc _
  have hP1 := hP.keep hf1 (fun _ _ h => h) (fun _ _ h => h) (fun _ h => h.elim)
  have hlt := hP.lt
  rw [hX] at hlt
  obtain ⟨hlt1, hlt2⟩ := hlt
  have cx0 := blk_cell hx 0
  simp at cx0
  clear hP hf1
  unfold opv
  cases at_ with
  | zero =>
    have hP2 : Pair B w0 w1 p q room 0 ex l sl1 0 (-1) ex l sl2 := by simpa using hP1
    clear hP1
    go_enter Try.func19, Try.ntmps19
    go_wp2_with fail
    refine (Take_none p room ex l _ _ hP2.b.box).mono ?_
    rintro e w2 ⟨rfl, rfl⟩
    go_wp2_with fail
    refine (RTake_none q room 0 ex l _ _ hP2.r).mono ?_
    rintro e w2 ⟨rfl, rfl⟩
    go_wp2_with fail
    go_ret
    exact ⟨rfl, 0, ex, l, sl1, sl2, by simpa using hP2, hat, hlr⟩
  | succ k =>
    have hP2 : Pair B w0 w1 p q room (k + 1) ex l sl1 (k + 1) k ex l sl2 := by rw [show ((k + 1 : Nat) : Int) - 1 = k by omega] at hP1; exact hP1
    clear hP1
    obtain ⟨x, hx2⟩ : ∃ x, l[k]? = some x := ⟨l[k], List.getElem?_eq_getElem _⟩
    have HX := Lib.hid hx2
    clear hx2
    go_enter Try.func19, Try.ntmps19
    go_wp2_with fail
    refine (Take_some p room k ex l _ _ hP2.b.box x HX.out (by omega)).mono ?_
    rintro e w2 ⟨rfl, hp⟩
    obtain ⟨sl3, hP3, _⟩ := hP2.stepB hp
    clear hp hP2 cx0 hw1
    go_wp2_with fail
    refine (RTake_some q room (k + 1) k ex l _ _ hP3.r x HX.out (by omega)).mono ?_
    rintro e w3 ⟨rfl, hp⟩
    obtain ⟨sl4, hP4, _⟩ := hP3.stepR hp
    clear hp hP3
    go_wp2_with fail
    go_ret
    exact ⟨rfl, 0, ex, l.take k ++ l.drop (k + 1), sl3, sl4, by simpa using hP4, by omega, by simp; omega⟩

set_option maxHeartbeats 3200000 in
set_option maxRecDepth 100000 in
theorem step_3 (B : Nat) (w0 w : World) (p q : Nat) (room : Int) (at_ : Nat) (ex : Int) (l : List Int) (h : Two B w0 w p q room at_ ex l) (hroom : room ≤ 32) (m n : Int) (ao : Option Addr) (nl cap : Nat) :
    Calls Try.prog 19 #[.pointer (some ⟨p, 0, none⟩), .pointer (some ⟨q, 0, none⟩), opv 3 m n ao nl cap] w fun e w' => StepPost B w0 p q room e w' := by
  obtain ⟨sl1, sl2, hP, hat, hlr⟩ := h
  obtain ⟨X, hX⟩ : ∃ X, w.heap.size = X := ⟨_, rfl⟩
  obtain ⟨w1, hw1⟩ : ∃ w1, w.alloc (.cells #[.int .i64 3, .int .u64 m, .int .i64 n, .slice ao nl cap] 48) = w1 := ⟨_, rfl⟩
  have hx : w1.heap[X]? = some (.cells #[.int .i64 3, .int .u64 m, .int .i64 n, .slice ao nl cap] 48 (0, 0)) := by subst hw1 hX; exact heap_alloc_new w _
  have hf1 : Fr (fun _ => False) w w1 := by subst hw1; exact (Fr.refl _ w).alloc _
  have hP1 := hP.keep hf1 (fun _ _ h => h) (fun _ _ h => h) (fun _ h => h.elim)
  have hlt := hP.lt
  rw [hX] at hlt
  obtain ⟨hlt1, hlt2⟩ := hlt
  have cx0 := blk_cell hx 0
  simp at cx0
  clear hP hf1
  unfold opv
  go_enter Try.func19, Try.ntmps19
  go_wp2_with fail
  refine (Wait_any p room at_ ex l _ _ hP1.b.box).mono ?_
  rintro e w2 ⟨rfl, hp⟩
  obtain ⟨sl3, hP3, _⟩ := hP1.stepB hp
  clear hp hP1 cx0 hw1
  go_wp2_with fail
  refine (RStop_any q room at_ _ ex l _ _ hP3.r).mono ?_
  rintro e w3 ⟨rfl, hp⟩
  obtain ⟨sl4, hP4, _⟩ := hP3.stepR hp
  clear hp hP3
  go_wp2_with fail
  go_ret
  exact ⟨rfl, 0, ex, l, sl3, sl4, by simpa using hP4, by omega, hlr⟩

set_option maxHeartbeats 3200000 in
set_option maxRecDepth 100000 in
theorem step_4 (B : Nat) (w0 w : World) (p q : Nat) (room : Int) (at_ : Nat) (ex : Int) (l : List Int) (h : Two B w0 w p q room at_ ex l) (hroom : room ≤ 32) (m n : Int) (ao : Option Addr) (nl cap : Nat) :
    Calls Try.prog 19 #[.pointer (some ⟨p, 0, none⟩), .pointer (some ⟨q, 0, none⟩), opv 4 m n ao nl cap] w fun e w' => StepPost B w0 p q room e w' := by
  obtain ⟨sl1, sl2, hP, hat, hlr⟩ := h
  obtain ⟨X, hX⟩ : ∃ X, w.heap.size = X := ⟨_, rfl⟩
  obtain ⟨w1, hw1⟩ : ∃ w1, w.alloc (.cells #[.int .i64 4, .int .u64 m, .int .i64 n, .slice ao nl cap] 48) = w1 := ⟨_, rfl⟩
  have hx : w1.heap[X]? = some (.cells #[.int .i64 4, .int .u64 m, .int .i64 n, .slice ao nl cap] 48 (0, 0)) := by subst hw1 hX; exact heap_alloc_new w _
  have hf1 : Fr (fun _ => False) w w1 := by subst hw1; exact (Fr.refl _ w).alloc _
  have hP1 := hP.keep hf1 (fun _ _ h => h) (fun _ _ h => h) (fun _ h => h.elim)
  have hlt := hP.lt
  rw [hX] at hlt
  obtain ⟨hlt1, hlt2⟩ := hlt
  have cx0 := blk_cell hx 0
  simp at cx0
  clear hP hf1
  unfold opv
  go_enter Try.func19, Try.ntmps19
  go_wp2_with fail
  refine (Stop_any p room at_ ex l _ _ hP1.b.box).mono ?_
  rintro e w2 ⟨rfl, hp⟩
  obtain ⟨sl3, hP3, _⟩ := hP1.stepB hp
  clear hp hP1 cx0 hw1
  go_wp2_with fail
  refine (RStop_any q room at_ _ ex l _ _ hP3.r).mono ?_
  rintro e w3 ⟨rfl, hp⟩
  obtain ⟨sl4, hP4, _⟩ := hP3.stepR hp
  clear hp hP3
  go_wp2_with fail
  go_ret
  exact ⟨rfl, 0, ex, l, sl3, sl4, by simpa using hP4, by omega, hlr⟩

set_option maxHeartbeats 3200000 in
set_option maxRecDepth 100000 in
theorem step_5 (B : Nat) (w0 w : World) (p q : Nat) (room : Int) (at_ : Nat) (ex : Int) (l : List Int) (h : Two B w0 w p q room at_ ex l) (hroom : room ≤ 32) (m n : Int) (ao : Option Addr) (nl cap : Nat) :
    Calls Try.prog 19 #[.pointer (some ⟨p, 0, none⟩), .pointer (some ⟨q, 0, none⟩), opv 5 m n ao nl cap] w fun e w' => StepPost B w0 p q room e w' := by
  obtain ⟨sl1, sl2, hP, hat, hlr⟩ := h
  obtain ⟨X, hX⟩ : ∃ X, w.heap.size = X := ⟨_, rfl⟩
  obtain ⟨w1, hw1⟩ : ∃ w1, w.alloc (.cells #[.int .i64 5, .int .u64 m, .int .i64 n, .slice ao nl cap] 48) = w1 := ⟨_, rfl⟩
  have hx : w1.heap[X]? = some (.cells #[.int .i64 5, .int .u64 m, .int .i64 n, .slice ao nl cap] 48 (0, 0)) := by subst hw1 hX; exact heap_alloc_new w _
  have hf1 : Fr (fun _ => False) w w1 := by subst hw1; exact (Fr.refl _ w).alloc _
  have hP1 := hP.keep hf1 (fun _ _ h => h) (fun _ _ h => h) (fun _ h => h.elim)
  have hlt := hP.lt
  rw [hX] at hlt
  obtain ⟨hlt1, hlt2⟩ := hlt
  have cx0 := blk_cell hx 0
  have cx2 := blk_cell hx 2
  simp at cx0 cx2
  clear hP hf1
  unfold opv
  by_cases h1 : n < 1
  · go_enter Try.func19, Try.ntmps19
    go_wp2_with fail
    refine (Mark_bad _ n _ (Or.inl h1)).mono ?_
    rintro e w2 ⟨rfl, rfl⟩
    go_wp2_with fail
    go_ret
    exact ⟨rfl, at_, ex, l, sl1, sl2, hP1, hat, hlr⟩
  · by_cases h2 : 281474976710656 < n
    · go_enter Try.func19, Try.ntmps19
      go_wp2_with fail
      refine (Mark_bad _ n _ (Or.inr h2)).mono ?_
      rintro e w2 ⟨rfl, rfl⟩
      go_wp2_with fail
      go_ret
      exact ⟨rfl, at_, ex, l, sl1, sl2, hP1, hat, hlr⟩
    · go_enter Try.func19, Try.ntmps19
      go_wp2_with fail
      refine (Mark_ok _ n _ (by omega) (by omega)).mono ?_
      rintro e w2 ⟨rfl, rfl⟩
      go_wp2_with fail
      go_ret
      exact ⟨rfl, at_, ex, l, sl1, sl2, hP1, hat, hlr⟩

set_option maxHeartbeats 3200000 in
set_option maxRecDepth 100000 in
theorem step_6 (B : Nat) (w0 w : World) (p q : Nat) (room : Int) (at_ : Nat) (ex : Int) (l : List Int) (h : Two B w0 w p q room at_ ex l) (hroom : room ≤ 32) (m n : Int) (ao : Option Addr) (nl cap : Nat) :
    Calls Try.prog 19 #[.pointer (some ⟨p, 0, none⟩), .pointer (some ⟨q, 0, none⟩), opv 6 m n ao nl cap] w fun e w' => StepPost B w0 p q room e w' := by
  obtain ⟨sl1, sl2, hP, hat, hlr⟩ := h
  obtain ⟨X, hX⟩ : ∃ X, w.heap.size = X := ⟨_, rfl⟩
  obtain ⟨w1, hw1⟩ : ∃ w1, w.alloc (.cells #[.int .i64 6, .int .u64 m, .int .i64 n, .slice ao nl cap] 48) = w1 := ⟨_, rfl⟩
  have hx : w1.heap[X]? = some (.cells #[.int .i64 6, .int .u64 m, .int .i64 n, .slice ao nl cap] 48 (0, 0)) := by subst hw1 hX; exact heap_alloc_new w _
  have hf1 : Fr (fun _ => False) w w1 := by subst hw1; exact (Fr.refl _ w).alloc _
  have hP1 := hP.keep hf1 (fun _ _ h => h) (fun _ _ h => h) (fun _ h => h.elim)
  have hlt := hP.lt
  rw [hX] at hlt
  obtain ⟨hlt1, hlt2⟩ := hlt
  have cx0 := blk_cell hx 0
  have cx2 := blk_cell hx 2
  simp at cx0 cx2
  clear hP hf1
  unfold opv
  go_enter Try.func19, Try.ntmps19
  go_wp2_with fail
  refine (Use_no _ n _).mono ?_
  rintro e w2 ⟨rfl, rfl⟩
  go_wp2_with fail
  go_ret
  exact ⟨rfl, at_, ex, l, sl1, sl2, hP1, hat, hlr⟩

set_option maxHeartbeats 3200000 in
set_option maxRecDepth 100000 in
theorem step_7 (B : Nat) (w0 w : World) (p q : Nat) (room : Int) (at_ : Nat) (ex : Int) (l : List Int) (h : Two B w0 w p q room at_ ex l) (hroom : room ≤ 32) (m n : Int) (ao : Option Addr) (nl cap : Nat) :
    Calls Try.prog 19 #[.pointer (some ⟨p, 0, none⟩), .pointer (some ⟨q, 0, none⟩), opv 7 m n ao nl cap] w fun e w' => StepPost B w0 p q room e w' := by
  obtain ⟨sl1, sl2, hP, hat, hlr⟩ := h
  obtain ⟨X, hX⟩ : ∃ X, w.heap.size = X := ⟨_, rfl⟩
  obtain ⟨w1, hw1⟩ : ∃ w1, w.alloc (.cells #[.int .i64 7, .int .u64 m, .int .i64 n, .slice ao nl cap] 48) = w1 := ⟨_, rfl⟩
  have hx : w1.heap[X]? = some (.cells #[.int .i64 7, .int .u64 m, .int .i64 n, .slice ao nl cap] 48 (0, 0)) := by subst hw1 hX; exact heap_alloc_new w _
  have hf1 : Fr (fun _ => False) w w1 := by subst hw1; exact (Fr.refl _ w).alloc _
  have hP1 := hP.keep hf1 (fun _ _ h => h) (fun _ _ h => h) (fun _ h => h.elim)
  have hlt := hP.lt
  rw [hX] at hlt
  obtain ⟨hlt1, hlt2⟩ := hlt
  have cx0 := blk_cell hx 0
  have cx2 := blk_cell hx 2
  simp at cx0 cx2
  clear hP hf1
  unfold opv
  go_enter Try.func19, Try.ntmps19
  go_wp2_with fail
  refine (Forget_no _ n _).mono ?_
  rintro e w2 ⟨rfl, rfl⟩
  go_wp2_with fail
  go_ret
  exact ⟨rfl, at_, ex, l, sl1, sl2, hP1, hat, hlr⟩

set_option maxHeartbeats 3200000 in
set_option maxRecDepth 100000 in
theorem step_9 (B : Nat) (w0 w : World) (p q : Nat) (room : Int) (at_ : Nat) (ex : Int) (l : List Int) (h : Two B w0 w p q room at_ ex l) (hroom : room ≤ 32) (m n : Int) (ao : Option Addr) (nl cap : Nat) :
    Calls Try.prog 19 #[.pointer (some ⟨p, 0, none⟩), .pointer (some ⟨q, 0, none⟩), opv 9 m n ao nl cap] w fun e w' => StepPost B w0 p q room e w' := by
  obtain ⟨sl1, sl2, hP, hat, hlr⟩ := h
  obtain ⟨X, hX⟩ : ∃ X, w.heap.size = X := ⟨_, rfl⟩
  obtain ⟨w1, hw1⟩ : ∃ w1, w.alloc (.cells #[.int .i64 9, .int .u64 m, .int .i64 n, .slice ao nl cap] 48) = w1 := ⟨_, rfl⟩
  have hx : w1.heap[X]? = some (.cells #[.int .i64 9, .int .u64 m, .int .i64 n, .slice ao nl cap] 48 (0, 0)) := by subst hw1 hX; exact heap_alloc_new w _
  have hf1 : Fr (fun _ => False) w w1 := by subst hw1; exact (Fr.refl _ w).alloc _
  have hP1 := hP.keep hf1 (fun _ _ h => h) (fun _ _ h => h) (fun _ h => h.elim)
  have hlt := hP.lt
  rw [hX] at hlt
  obtain ⟨hlt1, hlt2⟩ := hlt
  have cx0 := blk_cell hx 0
  simp at cx0
  clear hP hf1
  unfold opv
  go_enter Try.func19, Try.ntmps19
  go_wp2_with fail
  refine (Drop_any p room at_ ex l _ _ hP1.b.box).mono ?_
  rintro e w2 ⟨rfl, hp⟩
  obtain ⟨sl3, hP3, _⟩ := hP1.stepB hp
  clear hp hP1 cx0 hw1
  have c1 := blk_cell hP3.r.blk 1
  have f1 := blk_free hP3.r.blk 1
  simp at c1
  have hp : RPost q room at_ (at_ - 1) ex [] sl2 w2 (w2.setCell ⟨q, 1, none⟩ (.slice none 0 0)) :=
    ⟨.slice none 0 0, ⟨by rw [blk_set hP3.r.blk]; simp, Sl.nil _ _ _⟩, (Fr.refl _ _).setCell (Or.inl (Or.inl rfl)) _, fun k hk => by
      rcases hk with rfl | hk
      · exact .inl (.inl rfl)
      · simp [Value.ownBlock] at hk⟩
  obtain ⟨sl4, hP4, _⟩ := hP3.stepR hp
  clear hp
  obtain ⟨ao2, cap2, rfl, _, _⟩ := hP3.r.own.shape
  go_wp2_with fail
  refine (RStop_any q room at_ _ ex [] _ _ hP4.r).mono ?_
  rintro e w3 ⟨rfl, hp⟩
  obtain ⟨sl5, hP5, _⟩ := hP4.stepR hp
  clear hp hP3 hP4 c1 f1
  go_wp2_with fail
  go_ret
  exact ⟨rfl, 0, ex, [], sl3, sl5, by simpa using hP5, by simp, by simp; omega⟩

set_option maxHeartbeats 3200000 in
set_option maxRecDepth 100000 in
theorem step_other (B : Nat) (w0 w : World) (p q : Nat) (room : Int) (at_ : Nat) (ex : Int) (l : List Int) (h : Two B w0 w p q room at_ ex l) (hroom : room ≤ 32) (k : Int) (m n : Int) (ao : Option Addr) (nl cap : Nat) (hk : k < 0 ∨ 9 < k) :
    Calls Try.prog 19 #[.pointer (some ⟨p, 0, none⟩), .pointer (some ⟨q, 0, none⟩), opv k m n ao nl cap] w fun e w' => StepPost B w0 p q room e w' := by
  obtain ⟨sl1, sl2, hP, hat, hlr⟩ := h
  obtain ⟨X, hX⟩ : ∃ X, w.heap.size = X := ⟨_, rfl⟩
  obtain ⟨w1, hw1⟩ : ∃ w1, w.alloc (.cells #[.int .i64 k, .int .u64 m, .int .i64 n, .slice ao nl cap] 48) = w1 := ⟨_, rfl⟩
  have hx : w1.heap[X]? = some (.cells #[.int .i64 k, .int .u64 m, .int .i64 n, .slice ao nl cap] 48 (0, 0)) := by subst hw1 hX; exact heap_alloc_new w _
  have hf1 : Fr (fun _ => False) w w1 := by subst hw1; exact (Fr.refl _ w).alloc _
  have hP1 := hP.keep hf1 (fun _ _ h => h) (fun _ _ h => h) (fun _ h => h.elim)
  have hlt := hP.lt
  rw [hX] at hlt
  obtain ⟨hlt1, hlt2⟩ := hlt
  have cx0 := blk_cell hx 0
  simp at cx0
  have hk2 : (k == 0) = false ∧ (k == 1) = false ∧ (k == 2) = false ∧ (k == 3) = false ∧ (k == 4) = false ∧ (k == 5) = false ∧ (k == 6) = false ∧ (k == 7) = false ∧ (k == 8) = false ∧ (k == 9) = false := by simp; omega
  obtain ⟨k0, k1, k2, k3, k4, k5, k6, k7, k8, k9⟩ := hk2
  clear hP hf1
  unfold opv
  go_enter Try.func19, Try.ntmps19
  go_wp2_with fail
  go_ret
  exact ⟨rfl, at_, ex, l, sl1, sl2, hP1, hat, hlr⟩
end Go.Proofs.Ytbedgeimpobhdaa
