/- Plain: bytes that are cut short. -/
import Derived.Test.YtkhjdcnlpablkaaDoorInv3
namespace Go.Proofs.YtkhjdcnlpablkaaDoor

/-- What reads up to e reads the same of a longer cut, and of a shorter one says that it is short. -/
def Cut {α : Type} (f : List UInt8 → Res α) (e : α → Nat) : Prop := ∀ (bs : List UInt8) (i : Nat) (a : α), f bs = .ok a → i ≤ bs.length → (e a ≤ i → f (bs.take i) = .ok a) ∧ (i < e a → f (bs.take i) = .bad 62 i)

theorem rest_take {bs : List UInt8} {p n i : Nat} (h : p + n ≤ i) : rest (bs.take i) p n = rest bs p n := by
  unfold rest
  rw [List.drop_take, List.take_take, Nat.min_eq_left (by omega)]
theorem cut_num (p n : Nat) : Cut (fun bs => numD bs p n) (fun _ => p + n) := by
  intro bs i a h hi
  have h1 := numD_ok h
  have hl : (bs.take i).length = i := by rw [List.length_take]; omega
  refine ⟨fun he => ?_, fun he => ?_⟩ <;> simp only at he
  · show numD _ _ _ = _
    unfold numD
    rw [hl, if_neg (by omega), rest_take he, h1.2]
  · show numD _ _ _ = _
    unfold numD
    rw [hl, if_pos he]
theorem cut_take (p n : Nat) : Cut (fun bs => takeD bs p n) (fun _ => p + n) := by
  intro bs i a h hi
  have h1 := takeD_ok h
  have hl : (bs.take i).length = i := by rw [List.length_take]; omega
  refine ⟨fun he => ?_, fun he => ?_⟩ <;> simp only at he
  · show takeD _ _ _ = _
    unfold takeD
    rw [hl, if_neg (by omega), rest_take he, h1.2]
  · show takeD _ _ _ = _
    unfold takeD
    rw [hl, if_pos he]
theorem cut_bind {α β : Type} {f : List UInt8 → Res α} {e : α → Nat} {g : List UInt8 → α → Res β} {e' : β → Nat} (hf : Cut f e) (hg : ∀ a, Cut (fun bs => g bs a) e') (hm : ∀ bs a b, f bs = .ok a → g bs a = .ok b → e a ≤ e' b) :
    Cut (fun bs => (f bs).bind (g bs)) e' := by
  intro bs i b h hi
  obtain ⟨a, h1, h2⟩ := Res.bind_ok h
  have hle := hm bs a b h1 h2
  obtain ⟨c1, c2⟩ := hf bs i a h1 hi
  obtain ⟨d1, d2⟩ := hg a bs i b h2 hi
  refine ⟨fun he => ?_, fun he => ?_⟩
  · show (f (bs.take i)).bind _ = _
    rw [c1 (by omega)]
    exact d1 he
  · show (f (bs.take i)).bind _ = _
    by_cases hx : e a ≤ i
    · rw [c1 hx]
      exact d2 he
    · rw [c2 (by omega)]
      rfl
/-- Behind it nothing is read. -/
theorem cut_map {α β : Type} {f : List UInt8 → Res α} {e : α → Nat} {g : α → Res β} {e' : β → Nat} (hf : Cut f e) (hm : ∀ a b, g a = .ok b → e' b = e a) : Cut (fun bs => (f bs).bind g) e' := by
  intro bs i b h hi
  obtain ⟨a, h1, h2⟩ := Res.bind_ok h
  have hle := hm a b h2
  obtain ⟨c1, c2⟩ := hf bs i a h1 hi
  refine ⟨fun he => ?_, fun he => ?_⟩
  · show (f (bs.take i)).bind _ = _
    rw [c1 (by omega)]
    exact h2
  · show (f (bs.take i)).bind _ = _
    rw [c2 (by omega)]
    rfl

theorem cut_text (p tag tg : Nat) : Cut (fun bs => textD bs p tag tg) (fun x => x.2) := by
  unfold textD
  simp only
  obtain ⟨k, hk⟩ : ∃ k, (if tag = 118 then 2 else 1) = k := ⟨_, rfl⟩
  rw [hk]
  refine cut_bind (g := fun bs n => (takeD bs (p + k) n).bind fun l => if rightL l then .ok ((⟨l.toArray⟩ : ByteArray), p + k + n) else .bad 20 tg) (cut_num p k) (fun n => cut_map (cut_take (p + k) n) fun l b h => ?_) (fun bs n b _ h => ?_)
  · split at h
    · cases h; rfl
    · cases h
  · obtain ⟨l, _, h2⟩ := Res.bind_ok h
    split at h2
    · cases h2; show p + k ≤ p + k + n; omega
    · cases h2

theorem cut_host (p : Nat) : Cut (fun bs => hostD bs p) (fun x => x) := by
  unfold hostD
  refine cut_bind (g := fun bs tag => if tag ≠ 119 ∧ tag ≠ 118 then .bad 61 p else (textD bs (p + 1) tag p).bind fun x => .ok x.2) (cut_num p 1) (fun tag => ?_) (fun bs tag b _ h => ?_)
  · by_cases hg : tag ≠ 119 ∧ tag ≠ 118
    · intro bs i a h
      simp only at h
      rw [if_pos hg] at h
      cases h
    · simp only [if_neg hg]
      exact cut_map (cut_text (p + 1) tag p) fun a b h => by cases h; rfl
  · split at h
    · cases h
    · obtain ⟨x, h1, h2⟩ := Res.bind_ok h
      have := textD_ok h1
      cases h2
      show p + 1 ≤ x.2
      omega

theorem cut_pid (p tg : Nat) : Cut (fun bs => pidD bs p tg) (fun x => x.2) := by
  unfold pidD
  refine cut_bind (cut_host p) (fun q => cut_bind (cut_num q 4) (fun id => cut_bind (cut_num (q + 4) 4) (fun ser => cut_map (cut_num (q + 8) 4) (fun z b h => ?_)) ?_) ?_) ?_
  · split at h
    · cases h
    · cases h; show q + 12 = q + 8 + 4; omega
  · intro bs a b _ h
    obtain ⟨z, _, h2⟩ := Res.bind_ok h
    split at h2
    · cases h2
    · cases h2; show q + 4 + 4 ≤ q + 12; omega
  · intro bs a b _ h
    obtain ⟨x, _, h⟩ := Res.bind_ok h
    obtain ⟨z, _, h2⟩ := Res.bind_ok h
    split at h2
    · cases h2
    · cases h2; show q + 4 ≤ q + 12; omega
  · intro bs q b _ h
    obtain ⟨x, _, h⟩ := Res.bind_ok h
    obtain ⟨y, _, h⟩ := Res.bind_ok h
    obtain ⟨z, _, h2⟩ := Res.bind_ok h
    split at h2
    · cases h2
    · cases h2; show q ≤ q + 12; omega

theorem cut_ref (p tg : Nat) : Cut (fun bs => refD bs p tg) (fun x => x.2) := by
  unfold refD
  refine cut_bind (cut_num p 2) (fun k => cut_bind (cut_host (p + 2)) (fun q => cut_bind (cut_num q 4) (fun z => cut_map (cut_take (q + 4) (4 * k)) (fun l b h => ?_)) ?_) ?_) ?_
  · split at h
    · cases h
    · cases h; rfl
  · intro bs a b _ h
    obtain ⟨l, _, h2⟩ := Res.bind_ok h
    split at h2
    · cases h2
    · cases h2; show q + 4 ≤ q + 4 + 4 * k; omega
  · intro bs q b _ h
    obtain ⟨x, _, h⟩ := Res.bind_ok h
    obtain ⟨l, _, h2⟩ := Res.bind_ok h
    split at h2
    · cases h2
    · cases h2; show q ≤ q + 4 + 4 * k; omega
  · intro bs k b _ h
    obtain ⟨q, h1, h⟩ := Res.bind_ok h
    obtain ⟨x, _, h⟩ := Res.bind_ok h
    obtain ⟨l, _, h2⟩ := Res.bind_ok h
    have := hostD_ok h1
    split at h2
    · cases h2
    · cases h2; show p + 2 ≤ q + 4 + 4 * k; omega

theorem cut_big (p tg : Nat) : Cut (fun bs => bigD bs p tg) (fun x => x.2) := by
  unfold bigD
  refine cut_bind (cut_num p 1) (fun n => cut_bind (cut_num (p + 1) 1) (fun sg => cut_map (cut_take (p + 2) n) (fun d b h => ?_)) ?_) ?_
  · split at h
    · cases h
    · split at h
      · cases h
      · cases h; rfl
  · intro bs a b _ h
    obtain ⟨d, _, h⟩ := Res.bind_ok h
    split at h
    · cases h
    · split at h
      · cases h
      · cases h; show p + 1 + 1 ≤ p + 2 + n; omega
  · intro bs n b _ h
    obtain ⟨sg, _, h⟩ := Res.bind_ok h
    obtain ⟨d, _, h⟩ := Res.bind_ok h
    split at h
    · cases h
    · split at h
      · cases h
      · cases h; show p + 1 ≤ p + 2 + n; omega

theorem cut_if {α : Type} {c : Prop} [Decidable c] {f g : List UInt8 → Res α} {e : α → Nat} (hf : c → Cut f e) (hg : ¬ c → Cut g e) : Cut (fun bs => if c then f bs else g bs) e := by
  by_cases h : c
  · simp only [if_pos h]; exact hf h
  · simp only [if_neg h]; exact hg h
theorem cut_bad {α : Type} (n p : Nat) (e : α → Nat) : Cut (fun _ => (Res.bad n p : Res α)) e := fun _ _ _ h => by cases h

/-- As Cut, of cuts at p or behind it. -/
def CutF {α : Type} (p : Nat) (f : List UInt8 → Res α) (e : α → Nat) : Prop := ∀ (bs : List UInt8) (i : Nat) (a : α), f bs = .ok a → p ≤ i → i ≤ bs.length → (e a ≤ i → f (bs.take i) = .ok a) ∧ (i < e a → f (bs.take i) = .bad 62 i)
theorem Cut.from' {α : Type} {f : List UInt8 → Res α} {e : α → Nat} (h : Cut f e) (p : Nat) : CutF p f e := fun bs i a h1 _ hi => h bs i a h1 hi
theorem cutF_if {α : Type} {c : Prop} [Decidable c] {p : Nat} {f g : List UInt8 → Res α} {e : α → Nat} (hf : c → CutF p f e) (hg : ¬ c → CutF p g e) : CutF p (fun bs => if c then f bs else g bs) e := by
  by_cases h : c
  · simp only [if_pos h]; exact hf h
  · simp only [if_neg h]; exact hg h
theorem cutF_made (s : Rs) (p tg : Nat) (c : Ce) : CutF p (fun _ => madeD s p tg c) (fun x => x.1.pos) := fun bs i a h hp _ => by
  have h1 := madeD_ok h
  refine ⟨fun _ => h, fun hi => ?_⟩
  rw [h1.1] at hi
  exact absurd hi (by show ¬ i < p; omega)
theorem cut_bindF {α β : Type} {f : List UInt8 → Res α} {e : α → Nat} {g : List UInt8 → α → Res β} {e' : β → Nat} (hf : Cut f e) (hg : ∀ a, CutF (e a) (fun bs => g bs a) e') (hm : ∀ bs a b, f bs = .ok a → g bs a = .ok b → e a ≤ e' b) :
    Cut (fun bs => (f bs).bind (g bs)) e' := by
  intro bs i b h hi
  obtain ⟨a, h1, h2⟩ := Res.bind_ok h
  have hle := hm bs a b h1 h2
  obtain ⟨c1, c2⟩ := hf bs i a h1 hi
  refine ⟨fun he => ?_, fun he => ?_⟩
  · show (f (bs.take i)).bind _ = _
    rw [c1 (by omega)]
    exact (hg a bs i b h2 (by omega) hi).1 he
  · show (f (bs.take i)).bind _ = _
    by_cases hx : e a ≤ i
    · rw [c1 hx]
      exact (hg a bs i b h2 hx hi).2 he
    · rw [c2 (by omega)]
      rfl
end Go.Proofs.YtkhjdcnlpablkaaDoor
