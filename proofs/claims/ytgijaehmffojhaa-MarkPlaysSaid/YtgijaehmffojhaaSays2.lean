/- What Forget, Take, Stop, Drop, Swap answer, of the one and of the other. -/
import Derived.Test.YtgijaehmffojhaaRef4
namespace Go.Proofs.Ytgijaehmffojhaa
open Go.RowKit

def Bx.forgetSays (X : Bx) (ref : Int) : Bool × Bx := if 0 ≤ place (·.1) ref X.ms then (true, X.forgot (place (·.1) ref X.ms).toNat) else (false, X)
def Rx.forgetSays (R : Rx) (ref : Int) : Bool × Rx := if 0 ≤ place (·.1) ref R.ms then (true, { R with ms := cutA R.ms (place (·.1) ref R.ms).toNat }) else (false, R)

theorem forget_b (p : Nat) (mv : Value) (X : Bx) (ref : Int) (w : World) (h : Mb w p mv X) (hl : X.ms.length ≤ 1000) :
    Calls Try.prog 31 #[.pointer (some ⟨p, 0, none⟩), .int .i64 ref] w fun e w' => e = .returned (.bool (X.forgetSays ref).1) ∧ MPost p X.ns mv (X.forgetSays ref).2 w w' := by
  unfold Bx.forgetSays
  rcases place_cases (·.1) ref X.ms with ⟨hp, _⟩ | ⟨i, m, hp, hm, _⟩
  · rw [hp, if_neg (by omega)]; exact Forget_none p mv X ref w h hl hp
  · rw [hp, if_pos (by omega), Int.toNat_natCast]; exact Forget_some p mv X ref w h hl i hp (List.getElem?_eq_some_iff.1 hm).1

theorem forget_r (q : Nat) (lv mv : Value) (R : Rx) (ref : Int) (w : World) (h : Rb w q lv mv R) (hl : R.ms.length ≤ 1000) :
    Calls Try.prog 50 #[.pointer (some ⟨q, 0, none⟩), .int .i64 ref] w fun e w' => e = .returned (.bool (R.forgetSays ref).1) ∧ RPost q lv mv (R.forgetSays ref).2 w w' := by
  unfold Rx.forgetSays
  rcases place_cases (·.1) ref R.ms with ⟨hp, _⟩ | ⟨i, m, hp, hm, _⟩
  · rw [hp, if_neg (by omega)]; exact RForget_none q lv mv R ref w h hl hp
  · rw [hp, if_pos (by omega), Int.toNat_natCast]; exact RForget_some q lv mv R ref w h hl i hp (List.getElem?_eq_some_iff.1 hm).1

theorem forget_rel {X : Bx} {R : Rx} (h : Rel X R) (ref : Int) : (X.forgetSays ref).1 = (R.forgetSays ref).1 ∧ Rel (X.forgetSays ref).2 (R.forgetSays ref).2 := by
  unfold Bx.forgetSays Rx.forgetSays
  rw [h.find]
  split
  · refine ⟨rfl, h.marks (fun m hm => ?_) ?_⟩
    · unfold cutA at hm
      rw [List.mem_append] at hm
      rcases hm with hm | hm
      · exact List.mem_of_mem_take hm
      · exact List.mem_of_mem_drop hm
    · unfold cutA
      rw [h.ms, List.map_append, List.map_take, List.map_drop]
  · exact ⟨rfl, h⟩

theorem forget_keeps (R : Rx) (ref : Int) : (R.forgetSays ref).2.L = R.L ∧ (R.forgetSays ref).2.room = R.room ∧ (R.forgetSays ref).2.came = R.came ∧ (R.forgetSays ref).2.ex = R.ex ∧ (R.ms.length ≤ 64 → (R.forgetSays ref).2.ms.length ≤ 64) := by
  unfold Rx.forgetSays
  split
  · refine ⟨rfl, rfl, rfl, rfl, fun h => ?_⟩
    show (cutA R.ms _).length ≤ 64
    unfold cutA
    simp
    omega
  · exact ⟨rfl, rfl, rfl, rfl, id⟩

theorem Rel.stopped {X : Bx} {R : Rx} (h : Rel X R) : Rel X.stopped R.stopped := by
  have h0 : cnt R.L 0 = 0 := cnt_zero (fun m hm => by have := (h.lo m hm).1; omega)
  exact ⟨h.words, h.room, h.ex, rfl, h.inc, h.lo, rfl, by simp [Rx.stopped], by show (0 : Nat) = cnt R.L 0; rw [h0], h.c0, .inl ⟨rfl, rfl⟩, fun _ => rfl, h.c0⟩

theorem Rel.dropped {X : Bx} {R : Rx} (h : Rel X R) : Rel X.dropped R.dropped :=
  ⟨rfl, h.room, h.ex, rfl, by simp [Rx.dropped], by simp [Rx.dropped], rfl, by simp [Rx.dropped], rfl, h.c0, .inl ⟨rfl, rfl⟩, fun _ => rfl, h.c0⟩

def Bx.takeSays (X : Bx) : Int × Int × Bx := match X.ns[X.last - 1]? with | some m => if X.last = 0 then (0, 111, X) else (m.2, 0, X.taken) | none => (0, 111, X)

theorem take_b (p : Nat) (mv : Value) (X : Bx) (w : World) (h : Mb w p mv X) (hn : X.ns.length ≤ 1000) :
    Calls Try.prog 11 #[.pointer (some ⟨p, 0, none⟩)] w fun e w' => e = .returned (.tuple #[.int .u64 X.takeSays.1, .int .i64 X.takeSays.2.1]) ∧ MPost p X.ns mv X.takeSays.2.2 w w' := by
  unfold Bx.takeSays
  by_cases hl : X.last = 0
  · have e : (match X.ns[X.last - 1]? with | some m => if X.last = 0 then ((0 : Int), (111 : Int), X) else (m.2, 0, X.taken) | none => (0, 111, X)) = (0, 111, X) := by
      split
      · rw [if_pos hl]
      · rfl
    rw [e]
    exact (Take_none p mv X w h hl).mono fun e w' ⟨h1, h2⟩ => ⟨h1, h2 ▸ h.same (Below.refl _ _)⟩
  · obtain ⟨b, x, hb, _⟩ := h.at (show 0 < X.last by omega) h.last
    rw [hb]
    simp only [hl, if_false]
    exact Take_some p mv X w h (by omega) hn b x hb

/-- Take, of the document's mailbox, that is like the other one. -/
theorem take_r {X : Bx} {R : Rx} (hr : Rel X R) (hX : X.last ≤ X.ns.length) (q : Nat) (lv mv : Value) (w : World) (h : Rb w q lv mv R) (hl : R.L.length ≤ 1000) :
    ∃ S, Rel X.takeSays.2.2 S ∧ S.came = R.came ∧ S.ex = R.ex ∧ (R.ms.length ≤ 64 → S.ms.length ≤ 64) ∧ S.L.length ≤ R.L.length ∧ S.room = R.room ∧
      Calls Try.prog 48 #[.pointer (some ⟨q, 0, none⟩)] w fun e w' => e = .returned (.tuple #[.int .u64 X.takeSays.1, .int .i64 X.takeSays.2.1]) ∧ RPost q lv mv S w w' := by
  unfold Bx.takeSays
  rcases hr.last with ⟨h1, h2⟩ | ⟨h1, x, h2⟩
  · have e : (match X.ns[X.last - 1]? with | some m => if X.last = 0 then ((0 : Int), (111 : Int), X) else (m.2, 0, X.taken) | none => (0, 111, X)) = (0, 111, X) := by
      split
      · rw [if_pos h2]
      · rfl
    rw [e]
    exact ⟨R, hr, rfl, rfl, id, Nat.le_refl _, rfl, (RTake_none q lv mv R w h h1).mono fun e w' ⟨h1, h2⟩ => ⟨h1, h2 ▸ h.same (Below.refl _ _)⟩⟩
  · obtain ⟨⟨b, y⟩, hb⟩ : ∃ m, X.ns[X.last - 1]? = some m := ⟨X.ns[X.last - 1]'(by omega), List.getElem?_eq_getElem _⟩
    obtain ⟨n', hn'⟩ := hr.word hb
    rw [h2] at hn'
    simp at hn'
    obtain ⟨rfl, rfl⟩ := hn'
    rw [hb]
    simp only [show ¬ X.last = 0 by omega, if_false]
    have hkl := (List.getElem?_eq_some_iff.1 h2).1
    have hlo := hr.lo _ (List.mem_of_getElem? h2)
    have hsub : ∀ m, m ∈ cutA R.L (X.last - 1) → m ∈ R.L := fun m hm => by
      unfold cutA at hm
      rw [List.mem_append] at hm
      rcases hm with hm | hm
      · exact List.mem_of_mem_take hm
      · exact List.mem_of_mem_drop hm
    have hinc : (cutA R.L (X.last - 1)).Pairwise (fun a b => a.2 < b.2) := by
      have hs : (cutA R.L (X.last - 1)).Sublist R.L := by
        unfold cutA
        have := (List.Sublist.refl (R.L.take (X.last - 1))).append (List.drop_sublist 1 (R.L.drop (X.last - 1)))
        rw [List.drop_drop] at this
        simpa using this
      exact hr.inc.sublist hs
    refine ⟨R.taken (X.last - 1), ⟨?_, hr.room, hr.ex, rfl, hinc, fun m hm => hr.lo m (hsub m hm), rfl, by simp [Rx.taken], ?_, hr.c0, .inl ⟨rfl, rfl⟩, fun _ => rfl, hr.c0⟩, rfl, rfl, fun _ => by simp [Rx.taken], ?_, rfl, RTake_some q lv mv R w h hl hr.inc (X.last - 1) _ h2 (by omega)⟩
    · show (X.ns.eraseIdx (X.last - 1)).map (·.2) = (cutA R.L (X.last - 1)).map (·.1)
      rw [map_erase, hr.words]
      unfold cutA
      rw [List.map_append, List.map_take, List.map_drop]
    · show (0 : Nat) = cnt (cutA R.L (X.last - 1)) 0
      rw [cnt_zero (fun m hm => by have := (hr.lo m (hsub m hm)).1; omega)]
    · show (cutA R.L (X.last - 1)).length ≤ R.L.length
      rw [cutA_len hkl]; omega
end Go.Proofs.Ytgijaehmffojhaa
