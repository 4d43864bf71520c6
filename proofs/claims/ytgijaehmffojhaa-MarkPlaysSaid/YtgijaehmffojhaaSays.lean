/- What each call answers, of the one and of the other; they answer the same. -/
import Derived.Test.YtgijaehmffojhaaRel
namespace Go.Proofs.Ytgijaehmffojhaa
open Go.RowKit

def Bx.markSays (X : Bx) (ref : Int) : Int × Bx :=
  if ref < 1 ∨ 281474976710656 < ref then (1, X) else if 0 ≤ place (·.1) ref X.ms then (6, X) else (0, if X.ms.length < 64 then X.mark ref else X.first.mark ref)
def Rx.markSays (R : Rx) (ref : Int) : Int × Rx :=
  if ref < 1 ∨ 281474976710656 < ref then (1, R) else if 0 ≤ place (·.1) ref R.ms then (6, R) else (0, R.marked ref)

theorem mark_b (p : Nat) (mv : Value) (X : Bx) (ref : Int) (w : World) (h : Mb w p mv X) (hl : X.ms.length ≤ 900) :
    Calls Try.prog 18 #[.pointer (some ⟨p, 0, none⟩), .int .i64 ref] w fun e w' => e = .returned (.int .i64 (X.markSays ref).1) ∧ MPost p X.ns mv (X.markSays ref).2 w w' := by
  unfold Bx.markSays
  by_cases h1 : ref < 1 ∨ 281474976710656 < ref
  · rw [if_pos h1]; exact Mark_arg p mv X ref w h h1
  rw [if_neg h1]
  by_cases h2 : 0 ≤ place (·.1) ref X.ms
  · rw [if_pos h2]; exact Mark_twice p mv X ref w h (by omega) (by omega) (by omega) h2
  rw [if_neg h2]
  have h3 : place (·.1) ref X.ms = -1 := by
    rcases place_cases (·.1) ref X.ms with ⟨h, _⟩ | ⟨i, e, h, _⟩
    · exact h
    · omega
  by_cases h4 : X.ms.length < 64
  · simp only [h4, if_true]; exact Mark_new p mv X ref w h (by omega) (by omega) h4 h3
  · simp only [h4, if_false]; exact Mark_over p mv X ref w h (by omega) (by omega) (by omega) (by omega) h3

theorem mark_r (q : Nat) (lv mv : Value) (R : Rx) (ref : Int) (w : World) (h : Rb w q lv mv R) (hl : R.ms.length ≤ 900) :
    Calls Try.prog 19 #[.pointer (some ⟨q, 0, none⟩), .int .i64 ref] w fun e w' => e = .returned (.int .i64 (R.markSays ref).1) ∧ RPost q lv mv (R.markSays ref).2 w w' := by
  unfold Rx.markSays
  by_cases h1 : ref < 1 ∨ 281474976710656 < ref
  · rw [if_pos h1]; exact RMark_arg q lv mv R ref w h h1
  rw [if_neg h1]
  by_cases h2 : 0 ≤ place (·.1) ref R.ms
  · rw [if_pos h2]; exact RMark_twice q lv mv R ref w h (by omega) (by omega) (by omega) h2
  rw [if_neg h2]
  have h3 : place (·.1) ref R.ms = -1 := by
    rcases place_cases (·.1) ref R.ms with ⟨h, _⟩ | ⟨i, e, h, _⟩
    · exact h
    · omega
  exact RMark_new q lv mv R ref w h (by omega) (by omega) hl h3

theorem mark_rel {X : Bx} {R : Rx} (h : Rel X R) (ref : Int) : (X.markSays ref).1 = (R.markSays ref).1 ∧ Rel (X.markSays ref).2 (R.markSays ref).2 := by
  unfold Bx.markSays Rx.markSays
  rw [h.find]
  split
  · exact ⟨rfl, h⟩
  split
  · exact ⟨rfl, h⟩
  · exact ⟨rfl, h.marked ref⟩

theorem cutA_len {α : Type} {E : List α} {i : Nat} (h : i < E.length) : (cutA E i).length = E.length - 1 := by
  unfold cutA; simp; omega

theorem mark_keeps (R : Rx) (ref : Int) : (R.markSays ref).2.L = R.L ∧ (R.markSays ref).2.room = R.room ∧ (R.markSays ref).2.came = R.came ∧ (R.markSays ref).2.ex = R.ex ∧ (R.ms.length ≤ 64 → (R.markSays ref).2.ms.length ≤ 64) := by
  unfold Rx.markSays
  split
  · exact ⟨rfl, rfl, rfl, rfl, id⟩
  split
  · exact ⟨rfl, rfl, rfl, rfl, id⟩
  unfold Rx.marked
  split
  · refine ⟨rfl, rfl, rfl, rfl, fun _ => ?_⟩
    show (R.ms ++ [_]).length ≤ 64
    simp; omega
  · refine ⟨rfl, rfl, rfl, rfl, fun _ => ?_⟩
    show (cutA (R.ms ++ [(ref, R.came)]) 0).length ≤ 64
    rw [cutA_len (by simp)]
    simp; omega

def Bx.useSays (X : Bx) (ref : Int) : Bool × Bx :=
  if X.on = true then (false, X) else
    match X.ms[(place (·.1) ref X.ms).toNat]? with
    | some m => if 0 ≤ place (·.1) ref X.ms then (true, X.used m.2) else (false, X)
    | none => (false, X)
def Rx.useSays (R : Rx) (ref : Int) : Bool × Rx :=
  if R.going = true then (false, R) else
    match R.ms[(place (·.1) ref R.ms).toNat]? with
    | some m => if 0 ≤ place (·.1) ref R.ms then (true, R.used m.2) else (false, R)
    | none => (false, R)

theorem use_b (p : Nat) (mv : Value) (X : Bx) (ref : Int) (w : World) (h : Mb w p mv X) (hl : X.ms.length ≤ 1000) :
    Calls Try.prog 20 #[.pointer (some ⟨p, 0, none⟩), .int .i64 ref] w fun e w' => e = .returned (.bool (X.useSays ref).1) ∧ MPost p X.ns mv (X.useSays ref).2 w w' := by
  unfold Bx.useSays
  by_cases ho : X.on = true
  · rw [if_pos ho]
    exact (Use_on p mv X ref w h ho).mono fun e w' ⟨h1, h2⟩ => ⟨h1, h2 ▸ h.same (Below.refl _ _)⟩
  rw [if_neg ho]
  have ho' : X.on = false := by simpa using ho
  rcases place_cases (·.1) ref X.ms with ⟨hp, _⟩ | ⟨i, ⟨r, m⟩, hp, hm, _⟩
  · have e : (match X.ms[(place (·.1) ref X.ms).toNat]? with
      | some m => if 0 ≤ place (·.1) ref X.ms then (true, X.used m.2) else (false, X)
      | none => (false, X)) = (false, X) := by
      rw [hp]
      split
      · rw [if_neg (by omega)]
      · rfl
    rw [e]
    exact Use_none p mv X ref w h ho' hl hp
  · have e : (match X.ms[(place (·.1) ref X.ms).toNat]? with
      | some m => if 0 ≤ place (·.1) ref X.ms then (true, X.used m.2) else (false, X)
      | none => (false, X)) = (true, X.used m) := by
      rw [hp, Int.toNat_natCast, hm]
      simp
    rw [e]
    exact Use_some p mv X ref w h ho' hl i m r hp hm

theorem use_r (q : Nat) (lv mv : Value) (R : Rx) (ref : Int) (w : World) (h : Rb w q lv mv R) (hl : R.ms.length ≤ 1000) :
    Calls Try.prog 21 #[.pointer (some ⟨q, 0, none⟩), .int .i64 ref] w fun e w' => e = .returned (.bool (R.useSays ref).1) ∧ RPost q lv mv (R.useSays ref).2 w w' := by
  unfold Rx.useSays
  rcases place_cases (·.1) ref R.ms with ⟨hp, _⟩ | ⟨i, ⟨r, m⟩, hp, hm, _⟩
  · have e : (if R.going = true then (false, R) else match R.ms[(place (·.1) ref R.ms).toNat]? with
      | some m => if 0 ≤ place (·.1) ref R.ms then (true, R.used m.2) else (false, R)
      | none => (false, R)) = (false, R) := by
      rw [hp]
      split
      · rfl
      split
      · rw [if_neg (by omega)]
      · rfl
    rw [e]
    exact RUse_none q lv mv R ref w h hl hp
  · by_cases ho : R.going = true
    · rw [if_pos ho]
      exact RUse_on q lv mv R ref w h hl ho (by omega)
    · have e : (if R.going = true then (false, R) else match R.ms[(place (·.1) ref R.ms).toNat]? with
        | some m => if 0 ≤ place (·.1) ref R.ms then (true, R.used m.2) else (false, R)
        | none => (false, R)) = (true, R.used m) := by
        rw [if_neg ho, hp, Int.toNat_natCast, hm]
        simp
      rw [e]
      exact RUse_some q lv mv R ref w h hl (by simpa using ho) i r m hp hm

theorem use_rel {X : Bx} {R : Rx} (h : Rel X R) (ref : Int) : (X.useSays ref).1 = (R.useSays ref).1 ∧ Rel (X.useSays ref).2 (R.useSays ref).2 := by
  unfold Bx.useSays Rx.useSays
  rw [h.find, h.on]
  by_cases ho : R.going = true
  · rw [if_pos ho, if_pos ho]; exact ⟨rfl, h⟩
  rw [if_neg ho, if_neg ho]
  cases hm : R.ms[(place (·.1) ref R.ms).toNat]? with
  | none =>
    have e : X.ms[(place (·.1) ref R.ms).toNat]? = none := by rw [h.ms, List.getElem?_map, hm]; rfl
    rw [e]; exact ⟨rfl, h⟩
  | some m =>
    obtain ⟨r, c⟩ := m
    obtain ⟨e, hr⟩ := h.used (by simpa using ho) hm
    rw [e]
    by_cases hp : 0 ≤ place (·.1) ref R.ms
    · simp only [hp, if_true]; exact ⟨trivial, hr⟩
    · simp only [hp, if_false]; exact ⟨trivial, h⟩

theorem use_keeps (R : Rx) (ref : Int) : (R.useSays ref).2.L = R.L ∧ (R.useSays ref).2.room = R.room ∧ (R.useSays ref).2.came = R.came ∧ (R.useSays ref).2.ex = R.ex ∧ (R.useSays ref).2.ms = R.ms := by
  unfold Rx.useSays
  split
  · exact ⟨rfl, rfl, rfl, rfl, rfl⟩
  split
  · split
    · exact ⟨rfl, rfl, rfl, rfl, rfl⟩
    · exact ⟨rfl, rfl, rfl, rfl, rfl⟩
  · exact ⟨rfl, rfl, rfl, rfl, rfl⟩

def Bx.nextSays (X : Bx) : Int × Bool × Bx := match X.ns[X.cur]? with | some m => (m.2, true, X.told) | none => (0, false, X.going)
def Rx.nextSays (R : Rx) : Int × Bool × Rx := match R.L.find? (fun m => decide (R.atn < m.2)) with | some m => (m.1, true, R.told m.2) | none => (0, false, R.goes)

theorem next_b (p : Nat) (mv : Value) (X : Bx) (w : World) (h : Mb w p mv X) (h0 : 0 ≤ X.ex) (h1 : X.ex ≤ 1152921504606846976) :
    Calls Try.prog 14 #[.pointer (some ⟨p, 0, none⟩)] w fun e w' => e = .returned (.tuple #[.int .u64 X.nextSays.1, .bool X.nextSays.2.1]) ∧ MPost p X.ns mv X.nextSays.2.2 w w' := by
  refine (Next_any' p mv X w h h0 h1).mono ?_
  unfold Bx.nextSays
  rintro e w' (⟨b, x, hx, h1, h2⟩ | ⟨hx, h1, h2⟩)
  · rw [hx]; exact ⟨h1, h2⟩
  · rw [List.getElem?_eq_none hx]; exact ⟨h1, h2⟩

theorem find_at : ∀ {L : List (Int × Int)} {c x n : Int} {i : Nat}, L[i]? = some (x, n) → c < n → (∀ m ∈ L.take i, m.2 ≤ c) → L.find? (fun m => decide (c < m.2)) = some (x, n)
  | [], _, _, _, _, h, _, _ => by simp at h
  | m :: L, c, x, n, 0, h, hc, _ => by
    simp at h
    subst h
    rw [List.find?_cons, show decide (c < n) = true by simpa using hc]
  | m :: L, c, x, n, i + 1, h, hc, hn => by
    simp only [List.getElem?_cons_succ] at h
    rw [List.find?_cons, show decide (c < m.2) = false by have := hn m (by simp); simp; omega]
    exact find_at h hc (fun y hy => hn y (by simp [hy]))

theorem next_r (q : Nat) (lv mv : Value) (R : Rx) (w : World) (h : Rb w q lv mv R) (hl : R.L.length ≤ 1000) (h0 : 0 ≤ R.ex) (h1 : R.ex ≤ 1152921504606846976) :
    Calls Try.prog 22 #[.pointer (some ⟨q, 0, none⟩)] w fun e w' => e = .returned (.tuple #[.int .u64 R.nextSays.1, .bool R.nextSays.2.1]) ∧ RPost q lv mv R.nextSays.2.2 w w' := by
  refine (RNext_any q lv mv R w h hl h0 h1).mono ?_
  unfold Rx.nextSays
  rintro e w' (⟨i, x, n, hi, hc, hn, h1, h2⟩ | ⟨hn, h1, h2⟩)
  · rw [find_at hi hc hn]; exact ⟨h1, h2⟩
  · rw [List.find?_eq_none.2 (fun m hm => by have := hn m hm; simp; omega)]; exact ⟨h1, h2⟩

theorem next_rel {X : Bx} {R : Rx} (h : Rel X R) : X.nextSays.1 = R.nextSays.1 ∧ X.nextSays.2.1 = R.nextSays.2.1 ∧ Rel X.nextSays.2.2 R.nextSays.2.2 := by
  unfold Bx.nextSays Rx.nextSays
  cases hf : R.L.find? (fun m => decide (R.atn < m.2)) with
  | none =>
    have hn : ∀ m ∈ R.L, m.2 ≤ R.atn := fun m hm => by have := List.find?_eq_none.1 hf m hm; simpa using this
    rw [List.getElem?_eq_none (by rw [h.next_none hn]; exact Nat.le_refl _)]
    exact ⟨rfl, rfl, h.goes⟩
  | some m =>
    obtain ⟨x, n⟩ := m
    have hf' := List.find?_eq_some_iff_getElem.1 hf
    have h2 := hf'.1
    obtain ⟨i, hi, h1, h3⟩ := hf'.2
    have hiL : R.L[i]? = some (x, n) := by rw [List.getElem?_eq_getElem hi, h1]
    have hc := h.next_some hiL (by simpa using h2) (fun m hm => by
      rw [List.mem_take_iff_getElem] at hm
      obtain ⟨j, hj, rfl⟩ := hm
      have := h3 j (by omega)
      simpa using this)
    obtain ⟨⟨b, y⟩, hw⟩ : ∃ m, X.ns[X.cur]? = some m := ⟨X.ns[X.cur]'(by rw [hc, h.len]; exact hi), List.getElem?_eq_getElem _⟩
    obtain ⟨n', hn'⟩ := h.word hw
    rw [hw]
    rw [hc, hiL] at hn'
    simp at hn'
    exact ⟨hn'.1.symm, rfl, h.told (by rw [hc]; exact hiL)⟩

theorem next_keeps (R : Rx) : R.nextSays.2.2.L = R.L ∧ R.nextSays.2.2.room = R.room ∧ R.nextSays.2.2.came = R.came ∧ (R.nextSays.2.2.ex = R.ex ∨ R.nextSays.2.2.ex = R.ex + 1) ∧ R.nextSays.2.2.ms = R.ms := by
  unfold Rx.nextSays
  split
  · exact ⟨rfl, rfl, rfl, .inr rfl, rfl⟩
  · exact ⟨rfl, rfl, rfl, .inl rfl, rfl⟩
end Go.Proofs.Ytgijaehmffojhaa
