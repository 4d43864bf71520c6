/- Plain: bytes that are cut short, whole terms. -/
import Derived.Test.YtkhjdcnlpablkaaDoorCut
namespace Go.Proofs.YtkhjdcnlpablkaaDoor

theorem made_pos {s : Rs} {p tg : Nat} {c : Ce} {b : Rs × Nat × Bool} (h : madeD s p tg c = .ok b) : b.1.pos = p := by rw [(madeD_ok h).1]

theorem cut_body (s : Rs) (tag p : Nat) : CutF p (fun bs => bodyD bs s tag p) (fun x => x.1.pos) := by
  unfold bodyD
  refine cutF_if (fun _ => (cut_map (cut_num p 1) fun a b h => made_pos h).from' p) fun _ => ?_
  refine cutF_if (fun _ => (cut_map (cut_num p 4) fun a b h => made_pos h).from' p) fun _ => ?_
  refine cutF_if (fun _ => (cut_map (cut_big p s.pos) fun a b h => made_pos h).from' p) fun _ => ?_
  refine cutF_if (fun _ => (cut_map (cut_text p tag s.pos) fun a b h => made_pos h).from' p) fun _ => ?_
  refine cutF_if (fun _ => (cut_map (cut_num p 1) fun a b h => ?_).from' p) fun _ => ?_
  · obtain ⟨x, h1, h2⟩ := Res.bind_ok h
    cases h2
    exact made_pos (b := x) h1
  refine cutF_if (fun _ => (cut_map (cut_num p 4) fun a b h => ?_).from' p) fun _ => ?_
  · split at h
    · cases h
    · obtain ⟨x, h1, h2⟩ := Res.bind_ok h
      cases h2
      exact made_pos (b := x) h1
  refine cutF_if (fun _ => cutF_made s p s.pos nilC) fun _ => ?_
  refine cutF_if (fun _ => (cut_bind (cut_num p 2) (fun n => cut_map (cut_take (p + 2) n) fun a b h => ?_) fun bs n b _ h => ?_).from' p) fun _ => ?_
  · split at h
    · cases h
    · cases h; rfl
  · obtain ⟨l, _, h2⟩ := Res.bind_ok h
    split at h2
    · cases h2
    · cases h2; show p + 2 ≤ p + 2 + n; omega
  refine cutF_if (fun _ => (cut_map (cut_num p 4) fun a b h => ?_).from' p) fun _ => ?_
  · split at h
    · cases h
    · cases h; rfl
  refine cutF_if (fun _ => (cut_bind (cut_num p 4) (fun n => cut_map (cut_take (p + 4) n) fun a b h => ?_) fun bs n b _ h => ?_).from' p) fun _ => ?_
  · split at h
    · cases h
    · exact made_pos h
  · obtain ⟨l, _, h2⟩ := Res.bind_ok h
    split at h2
    · cases h2
    · have := made_pos h2; omega
  refine cutF_if (fun _ => (cut_map (cut_pid p s.pos) fun a b h => made_pos h).from' p) fun _ => ?_
  refine cutF_if (fun _ => (cut_map (cut_ref p s.pos) fun a b h => made_pos h).from' p) fun _ => ?_
  exact (cut_bad 61 s.pos _).from' p

theorem cut_one (s : Rs) : Cut (fun bs => oneD bs s) (fun x => x.1.pos) := by
  unfold oneD
  refine cut_bindF (f := fun bs => tagD bs s.pos) (e := fun _ => s.pos + 1) (cut_num s.pos 1) (fun tag => cut_body s tag (s.pos + 1)) fun bs a b h1 h2 => ?_
  have h3 : oneD bs s = .ok (b.1, b.2.1, b.2.2) := by
    unfold oneD
    rw [h1]
    exact h2
  have := oneD_ok h3
  omega

theorem kids_pos (bs : List UInt8) : ∀ (f k : Nat) (c : Bool) (s s' : Rs), kidsD bs f k c s = some (.ok s') → s.pos ≤ s'.pos
  | _, 0, _, s, s', h => by
    simp [kidsD] at h
    subst h
    omega
  | 0, _ + 1, _, _, _, h => by simp [kidsD] at h
  | f + 1, k + 1, c, s, s', h => by
    rw [kidsD] at h
    cases h1 : oneD bs (push c k s) with
    | bad e p => rw [h1] at h; cases h
    | ok x =>
      obtain ⟨s1, k1, c1⟩ := x
      have ho := oneD_ok h1
      rw [(push_pos c k s).1] at ho
      rw [h1] at h
      simp only at h
      cases h2 : kidsD bs f k1 c1 s1 with
      | none => rw [h2] at h; cases h
      | some y =>
        rw [h2] at h
        cases y with
        | bad e p => cases h
        | ok s2 =>
          have a1 := kids_pos bs f k1 c1 s1 s2 h2
          have a2 := kids_pos bs f k c s2 s' h
          omega

theorem kids_cut (bs : List UInt8) (i : Nat) (hi : i ≤ bs.length) : ∀ (f k : Nat) (c : Bool) (s s' : Rs), kidsD bs f k c s = some (.ok s') → s.pos ≤ i →
    (s'.pos ≤ i → kidsD (bs.take i) f k c s = some (.ok s')) ∧ (i < s'.pos → kidsD (bs.take i) f k c s = some (.bad 62 i))
  | f, 0, c, s, s', h, hp => by
    have h' : s = s' := by simpa [kidsD] using h
    subst h'
    exact ⟨fun _ => by simp [kidsD], fun e => by omega⟩
  | 0, _ + 1, _, _, _, h, _ => by simp [kidsD] at h
  | f + 1, k + 1, c, s, s', h, hp => by
    rw [kidsD] at h
    rw [kidsD]
    cases h1 : oneD bs (push c k s) with
    | bad e p => rw [h1] at h; cases h
    | ok x =>
      obtain ⟨s1, k1, c1⟩ := x
      obtain ⟨d1, d2⟩ := cut_one (push c k s) bs i _ h1 hi
      simp only at d1 d2
      rw [h1] at h
      simp only at h
      cases h2 : kidsD bs f k1 c1 s1 with
      | none => rw [h2] at h; cases h
      | some y =>
        rw [h2] at h
        cases y with
        | bad e p => cases h
        | ok s2 =>
          simp only at h
          have a1 := kids_pos bs f k1 c1 s1 s2 h2
          have a2 := kids_pos bs f k c s2 s' h
          by_cases q1 : s1.pos ≤ i
          · obtain ⟨b1, b2⟩ := kids_cut bs i hi f k1 c1 s1 s2 h2 q1
            rw [d1 q1]
            simp only
            by_cases q2 : s2.pos ≤ i
            · rw [b1 q2]
              exact kids_cut bs i hi f k c s2 s' h q2
            · rw [b2 (by omega)]
              exact ⟨fun _ => by omega, fun _ => rfl⟩
          · rw [d2 (by omega)]
            exact ⟨fun _ => by omega, fun _ => rfl⟩

/-- What is read whole, cut behind its first byte, is short. -/
theorem dec_cut {bs : List UInt8} {l : List Ce} (h : decD bs = .ok l) {n : Nat} (h0 : 0 < n) (hn : n < bs.length) : decD (bs.take n) = .bad 62 n := by
  unfold decD at h
  split at h
  · cases h
  rename_i hl
  split at h
  · cases h
  rename_i hm
  have hlen : (bs.take n).length = n := by rw [List.length_take]; omega
  have hhd : (bs.take n).head? = some 131 := by
    cases bs with
    | nil => simp at hn
    | cons y ys =>
      obtain ⟨m, rfl⟩ : ∃ m, n = m + 1 := ⟨n - 1, by omega⟩
      simp at hm ⊢
      exact hm
  split at h
  · rename_i s hk
    split at h
    · cases h
    rename_i hs
    have hc := (kids_cut bs n (by omega) _ _ _ _ _ hk (by show 1 ≤ n; omega)).2 (by omega)
    obtain ⟨r, hr, _⟩ := kids_total (bs.take n) (n + 1) 1 false ⟨1, 0, []⟩ (by show _ ≤ 1 + (n + 1); omega) (by show 1 ≤ _; omega)
    have := Runs.unique ⟨_, hc⟩ ⟨_, hr⟩
    subst this
    unfold decD
    rw [hlen, if_neg (by omega), if_neg (by rw [hhd]; simp; omega), hr]
  · cases h
  · cases h
theorem dec_cut0 {bs : List UInt8} : decD (bs.take 0) = .bad 60 0 := by
  simp [decD]
end Go.Proofs.YtkhjdcnlpablkaaDoor
