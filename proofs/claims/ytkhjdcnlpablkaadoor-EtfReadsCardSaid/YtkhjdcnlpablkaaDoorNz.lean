/- Plain: a fault's number is not nought; what is read has short texts. -/
import Derived.Test.YtkhjdcnlpablkaaDoorGood
namespace Go.Proofs.YtkhjdcnlpablkaaDoor

/-- Faults of x have numbers. -/
def NZ {α : Type} (x : Res α) : Prop := ∀ e p, x = .bad e p → e ≠ 0
theorem nz_ok {α : Type} (a : α) : NZ (.ok a) := fun _ _ h => by cases h
theorem nz_bad {α : Type} {e p : Nat} (h : e ≠ 0) : NZ (.bad e p : Res α) := fun _ _ h' => by cases h'; exact h
theorem nz_bind {α β : Type} {x : Res α} {f : α → Res β} (hx : NZ x) (hf : ∀ a, NZ (f a)) : NZ (x.bind f) := by
  intro e p h
  cases x with
  | bad e' p' => cases h; exact hx _ _ rfl
  | ok a => exact hf a e p h
theorem nz_if {α : Type} {c : Prop} [Decidable c] {x y : Res α} (hx : NZ x) (hy : NZ y) : NZ (if c then x else y) := by split <;> assumption
theorem nz_num (bs : List UInt8) (p n : Nat) : NZ (numD bs p n) := nz_if (nz_bad (by omega)) (nz_ok _)
theorem nz_take (bs : List UInt8) (p n : Nat) : NZ (takeD bs p n) := nz_if (nz_bad (by omega)) (nz_ok _)
theorem nz_text (bs : List UInt8) (p t g : Nat) : NZ (textD bs p t g) := nz_bind (nz_num _ _ _) fun _ => nz_bind (nz_take _ _ _) fun _ => nz_if (nz_ok _) (nz_bad (by omega))
theorem nz_host (bs : List UInt8) (p : Nat) : NZ (hostD bs p) := nz_bind (nz_num _ _ _) fun _ => nz_if (nz_bad (by omega)) (nz_bind (nz_text _ _ _ _) fun _ => nz_ok _)
theorem nz_big (bs : List UInt8) (p g : Nat) : NZ (bigD bs p g) := nz_bind (nz_num _ _ _) fun _ => nz_bind (nz_num _ _ _) fun _ => nz_bind (nz_take _ _ _) fun _ => nz_if (nz_bad (by omega)) (nz_if (nz_bad (by omega)) (nz_ok _))
theorem nz_pid (bs : List UInt8) (p g : Nat) : NZ (pidD bs p g) := nz_bind (nz_host _ _) fun _ => nz_bind (nz_num _ _ _) fun _ => nz_bind (nz_num _ _ _) fun _ => nz_bind (nz_num _ _ _) fun _ => nz_if (nz_bad (by omega)) (nz_ok _)
theorem nz_ref (bs : List UInt8) (p g : Nat) : NZ (refD bs p g) := nz_bind (nz_num _ _ _) fun _ => nz_bind (nz_host _ _) fun _ => nz_bind (nz_num _ _ _) fun _ => nz_bind (nz_take _ _ _) fun _ => by
  split
  · exact nz_bad (by omega)
  · exact nz_ok _
theorem nz_made (s : Rs) (p g : Nat) (c : Ce) : NZ (madeD s p g c) := nz_if (nz_bad (by omega)) (nz_ok _)
theorem nz_one (bs : List UInt8) (s : Rs) : NZ (oneD bs s) := by
  unfold oneD
  refine nz_bind (nz_num _ _ _) fun tag => ?_
  unfold bodyD
  refine nz_if (nz_bind (nz_num _ _ _) fun _ => nz_made _ _ _ _) ?_
  refine nz_if (nz_bind (nz_num _ _ _) fun _ => nz_made _ _ _ _) ?_
  refine nz_if (nz_bind (nz_big _ _ _) fun _ => nz_made _ _ _ _) ?_
  refine nz_if (nz_bind (nz_text _ _ _ _) fun _ => nz_made _ _ _ _) ?_
  refine nz_if (nz_bind (nz_num _ _ _) fun _ => nz_bind (nz_made _ _ _ _) fun _ => nz_ok _) ?_
  refine nz_if (nz_bind (nz_num _ _ _) fun _ => nz_if (nz_bad (by omega)) (nz_bind (nz_made _ _ _ _) fun _ => nz_ok _)) ?_
  refine nz_if (nz_made _ _ _ _) ?_
  refine nz_if (nz_bind (nz_num _ _ _) fun _ => nz_bind (nz_take _ _ _) fun _ => nz_if (nz_bad (by omega)) (nz_ok _)) ?_
  refine nz_if (nz_bind (nz_num _ _ _) fun _ => nz_if (nz_bad (by omega)) (nz_ok _)) ?_
  refine nz_if (nz_bind (nz_num _ _ _) fun _ => nz_bind (nz_take _ _ _) fun _ => nz_if (nz_bad (by omega)) (nz_made _ _ _ _)) ?_
  refine nz_if (nz_bind (nz_pid _ _ _) fun _ => nz_made _ _ _ _) ?_
  refine nz_if (nz_bind (nz_ref _ _ _) fun _ => nz_made _ _ _ _) ?_
  exact nz_bad (by omega)
theorem nz_kids (bs : List UInt8) : ∀ (f k : Nat) (c : Bool) (s : Rs) (e p : Nat), kidsD bs f k c s = some (.bad e p) → e ≠ 0
  | _, 0, _, _, _, _, h => by simp [kidsD] at h
  | 0, _ + 1, _, _, _, _, h => by simp [kidsD] at h
  | f + 1, k + 1, c, s, e, p, h => by
    rw [kidsD] at h
    cases h1 : oneD bs (push c k s) with
    | bad e' p' =>
      rw [h1] at h
      cases h
      exact nz_one _ _ _ _ h1
    | ok x =>
      obtain ⟨s1, k1, c1⟩ := x
      rw [h1] at h
      simp only at h
      cases h2 : kidsD bs f k1 c1 s1 with
      | none => rw [h2] at h; cases h
      | some y =>
        rw [h2] at h
        cases y with
        | bad e' p' =>
          cases h
          exact nz_kids bs f k1 c1 s1 _ _ h2
        | ok s2 => exact nz_kids bs f k c s2 e p h
theorem nz_dec (bs : List UInt8) : NZ (decD bs) := by
  intro e p h
  unfold decD at h
  split at h
  · cases h; omega
  split at h
  · cases h; omega
  split at h
  · split at h
    · cases h; omega
    · cases h
  · rename_i hk
    cases h
    exact nz_kids _ _ _ _ _ _ _ hk
  · rename_i hm hk
    obtain ⟨r, hr, _⟩ := kids_total bs (bs.length + 1) 1 false ⟨1, 0, []⟩ (by show _ ≤ 1 + (bs.length + 1); omega) (by
      show 1 ≤ bs.length
      omega)
    rw [hr] at hk
    cases hk

mutual
theorem wf_E : ∀ a : T, a.wf → ∀ c ∈ a.cells, c.E = 0
  | .leaf d, h, c, hc => by
    simp [T.cells] at hc
    subst hc
    exact h.1
  | .tup d ks, h, c, hc => by
    simp [T.cells] at hc
    rcases hc with rfl | hc
    · exact h.1
    · exact wfL_E ks h.2.2.2 c hc
  | .cons x y, h, c, hc => by
    simp [T.cells] at hc
    rcases hc with rfl | hc | hc
    · exact consC_E
    · exact wf_E x h.1 c hc
    · exact wf_E y h.2 c hc
theorem wfL_E : ∀ ks : List T, T.wfL ks → ∀ c ∈ T.cellsL ks, c.E = 0
  | [], _, c, hc => by simp [T.cellsL] at hc
  | k :: ks, h, c, hc => by
    simp [T.cellsL] at hc
    rcases hc with hc | hc
    · exact wf_E k h.1 c hc
    · exact wfL_E ks h.2 c hc
end
theorem text_le {c : Ce} (h : c.E = 0) : c.text.size ≤ 1024 := by
  obtain ⟨_, _, kt, _, _, _, _, k2, k8⟩ := cell_zero h
  rcases kt with e | e | e
  · have := (k2 e).1; omega
  · exact k8 e
  · rw [ba_nil e]
    show (0 : Nat) ≤ 1024
    omega
/-- What is read is right. -/
theorem dec_right {bs : List UInt8} {t : List Ce} (h : decD bs = .ok t) : rightT t = (0, 0) ∧ OkCes t := by
  obtain ⟨a, rfl, h2, h3, h4⟩ := dec_good h
  refine ⟨right_of h2 h4, fun c hc => h3 c hc, fun c hc => ?_⟩
  have := text_le (wf_E a h2 c hc)
  unfold maxLen
  omega
end Go.Proofs.YtkhjdcnlpablkaaDoor
