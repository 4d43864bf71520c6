/- SchedOnce: the plain law: which are ready, in which order. -/
import Derived.Test.YtjdinopiipmojaaDrop
import Derived.Test.YtjdinopiipmojaaKnown
namespace Go.Proofs.Ytjdinopiipmojaa
open Go.RowKit

theorem QIn.step2 {B : Nat} {w0 w w' : World} {p bm : Nat} {vs : Int → Value} {c c' : Int} {L L' : Int → List Int} (h : QIn B w0 w p bm vs c L) (hp : QPost p bm vs c' L' w w') :
    ∃ vs', QIn B w0 w' p bm vs' c' L' ∧ ∀ (g : Nat) (o : Obj), w.heap[g]? = some o → ¬ bf p bm vs g → w'.heap[g]? = some o ∧ ¬ bf p bm vs' g := by
  obtain ⟨vs', hb, hf, hg⟩ := hp
  have hs := h.size
  refine ⟨vs', ⟨hb, fun k hk => by rcases hg k hk with x | x; exact h.lies k x; omega, h.below.trans (hf.below h.size h.lies), Nat.le_trans h.size hf.size⟩, fun g o hgo hn => ⟨hf.at hgo hn, fun hb' => ?_⟩⟩
  rcases hg g hb' with x | x
  · exact hn x
  · have := blk_lt hgo; omega

/-- A row of n cells, the i-th f i. -/
def rowf (n : Nat) (f : Nat → Value) : Array Value := ((List.range n).map f).toArray

theorem rowf_get (n : Nat) (f : Nat → Value) (i : Nat) (h : i < n) : (rowf n f)[i]? = some (f i) := by
  simp [rowf, h]

def upd {α : Type} (f : Nat → α) (k : Nat) (a : α) : Nat → α := fun i => if i = k then a else f i

theorem rowf_set (n : Nat) (f : Nat → Value) (k : Nat) (v : Value) : (rowf n f).setIfInBounds k v = rowf n (upd f k v) := by
  apply Array.ext_getElem?
  intro i
  by_cases hi : i < n
  · rw [rowf_get _ _ _ hi, Array.getElem?_setIfInBounds]
    unfold upd
    by_cases e : k = i
    · subst e
      rw [if_pos rfl, if_pos rfl, if_pos (by simpa [rowf] using hi)]
    · rw [if_neg e, if_neg (fun h => e h.symm), rowf_get _ _ _ hi]
  · rw [Array.getElem?_eq_none (by simp [rowf]; omega), Array.getElem?_eq_none (by simp [rowf]; omega)]

theorem sumL_set (L : Int → List Int) (j : Int) (l : List Int) (j1 : 1 ≤ j) (j4 : j ≤ 4) : sumL (setL L j l) 4 + (L j).length = sumL L 4 + l.length := by
  have : j = 1 ∨ j = 2 ∨ j = 3 ∨ j = 4 := by omega
  rcases this with rfl | rfl | rfl | rfl <;> simp [sumL, setL] <;> omega

structure Left (zs : List Int) (m : Nat) (bs : Nat → Bool) (L : Int → List Int) : Prop where
  inc : ∀ j, 1 ≤ j → j ≤ 4 → (L j).Pairwise (· < ·)
  mem : ∀ j x, 1 ≤ j → j ≤ 4 → (x ∈ L j ↔ ∃ (i : Nat) (z : Int), x = (i : Int) + 1 ∧ i < m ∧ bs i = true ∧ zs[i]? = some z ∧ 1 + z % 4 = j)

theorem Left.empty (zs : List Int) (m : Nat) : Left zs m (fun _ => false) (fun _ => []) := ⟨by simp, by simp⟩

theorem Left.congr {zs : List Int} {m : Nat} {bs bs' : Nat → Bool} {L : Int → List Int} (h : Left zs m bs L) (e : ∀ i, i < m → bs i = bs' i) : Left zs m bs' L := by
  refine ⟨h.inc, fun j x j1 j4 => ?_⟩
  rw [h.mem j x j1 j4]
  constructor
  · rintro ⟨i, z, h1, h2, h3, h4⟩; exact ⟨i, z, h1, h2, by rw [← e i h2]; exact h3, h4⟩
  · rintro ⟨i, z, h1, h2, h3, h4⟩; exact ⟨i, z, h1, h2, by rw [e i h2]; exact h3, h4⟩

theorem Left.add {zs : List Int} {m k : Nat} {bs : Nat → Bool} {L : Int → List Int} {z : Int} (h : Left zs m bs L) (hb : ∀ i, i < m → bs i = decide (i < k)) (hk : k < m) (hz : zs[k]? = some z) :
    Left zs m (upd bs k true) (setL L (1 + z % 4) (L (1 + z % 4) ++ [(k : Int) + 1])) := by
  have z1 : 1 ≤ 1 + z % 4 := by omega
  have z4 : 1 + z % 4 ≤ 4 := by omega
  refine ⟨fun j j1 j4 => ?_, fun j x j1 j4 => ?_⟩
  · unfold setL
    split
    · rename_i e
      subst e
      rw [List.pairwise_append]
      refine ⟨h.inc _ z1 z4, by simp, fun a ha b hb' => ?_⟩
      simp at hb'
      subst hb'
      obtain ⟨i, _, h1, h2, h3, _⟩ := (h.mem _ a z1 z4).1 ha
      rw [hb i h2] at h3
      have : i < k := by simpa using h3
      omega
    · exact h.inc j j1 j4
  · have hm := h.mem j x j1 j4
    unfold setL
    by_cases e : j = 1 + z % 4
    · rw [if_pos e]
      subst e
      simp only [List.mem_append, List.mem_singleton, hm]
      constructor
      · rintro (⟨i, y, h1, h2, h3, h4⟩ | rfl)
        · exact ⟨i, y, h1, h2, by unfold upd; split <;> simp_all, h4⟩
        · exact ⟨k, z, rfl, hk, by simp [upd], hz, rfl⟩
      · rintro ⟨i, y, h1, h2, h3, h4⟩
        by_cases e : i = k
        · subst e; exact .inr h1
        · exact .inl ⟨i, y, h1, h2, by simpa [upd, e] using h3, h4⟩
    · rw [if_neg e, hm]
      constructor
      · rintro ⟨i, y, h1, h2, h3, h4⟩
        exact ⟨i, y, h1, h2, by unfold upd; split <;> simp_all, h4⟩
      · rintro ⟨i, y, h1, h2, h3, h4, h5⟩
        by_cases e' : i = k
        · subst e'; rw [hz] at h4; cases h4; exact absurd h5.symm e
        · exact ⟨i, y, h1, h2, by simpa [upd, e'] using h3, h4, h5⟩

theorem mem_cutAt {l : List Int} {i : Nat} {x : Int} (hl : l.Pairwise (· < ·)) (hx : l[i]? = some x) (y : Int) : y ∈ cutAt l i ↔ y ∈ l ∧ y ≠ x := by
  have hi := (List.getElem?_eq_some_iff.1 hx).1
  have he := (List.getElem?_eq_some_iff.1 hx).2
  have hsplit : l = l.take i ++ x :: l.drop (i + 1) := by
    rw [← he, List.getElem_cons_drop, List.take_append_drop]
  have hp := hl
  rw [hsplit, List.pairwise_append] at hp
  obtain ⟨_, p2, p3⟩ := hp
  have p4 := (List.pairwise_cons.1 p2).1
  unfold cutAt
  constructor
  · intro h
    rcases List.mem_append.1 h with h | h
    · exact ⟨List.mem_of_mem_take h, fun e => by have := p3 y h x (by simp); omega⟩
    · exact ⟨List.mem_of_mem_drop h, fun e => by have := p4 y h; omega⟩
  · rintro ⟨h, hne⟩
    rw [hsplit] at h
    simp at h ⊢
    rcases h with h | h | h
    · exact .inl h
    · exact absurd h hne
    · exact .inr h

theorem cutAt_pairwise {l : List Int} (hl : l.Pairwise (· < ·)) (i : Nat) : (cutAt l i).Pairwise (· < ·) := by
  refine hl.sublist ?_
  unfold cutAt
  have h : l = l.take i ++ l.drop i := (List.take_append_drop i l).symm
  conv => rhs; rw [h]
  exact List.Sublist.append (List.Sublist.refl _) (by rw [← List.drop_drop]; exact (List.drop_sublist 1 (l.drop i)))

theorem Left.out {zs : List Int} {m k : Nat} {bs : Nat → Bool} {L : Int → List Int} {j : Int} {i : Nat} (h : Left zs m bs L) (j1 : 1 ≤ j) (j4 : j ≤ 4) (hi : (L j)[i]? = some ((k : Int) + 1)) :
    Left zs m (upd bs k false) (setL L j (cutAt (L j) i)) := by
  have hin := List.mem_of_getElem? hi
  obtain ⟨k', z, e1, e2, e3, e4, e5⟩ := (h.mem j _ j1 j4).1 hin
  obtain rfl : k = k' := by omega
  refine ⟨fun j' j1' j4' => ?_, fun j' x j1' j4' => ?_⟩
  · unfold setL
    split
    · exact cutAt_pairwise (h.inc j j1 j4) i
    · exact h.inc j' j1' j4'
  · have hm := h.mem j' x j1' j4'
    unfold setL
    by_cases e : j' = j
    · rw [if_pos e]
      subst e
      rw [mem_cutAt (h.inc j' j1 j4) hi, hm]
      constructor
      · rintro ⟨⟨i, y, h1, h2, h3, h4⟩, hne⟩
        exact ⟨i, y, h1, h2, by unfold upd; rw [if_neg (by omega)]; exact h3, h4⟩
      · rintro ⟨i, y, h1, h2, h3, h4⟩
        by_cases e : i = k
        · subst e; simp [upd] at h3
        · exact ⟨⟨i, y, h1, h2, by simpa [upd, e] using h3, h4⟩, by omega⟩
    · rw [if_neg e, hm]
      constructor
      · rintro ⟨i, y, h1, h2, h3, h4, h5⟩
        refine ⟨i, y, h1, h2, ?_, h4, h5⟩
        unfold upd
        rw [if_neg (fun e' => by subst e'; rw [e4] at h4; cases h4; exact e (by omega))]
        exact h3
      · rintro ⟨i, y, h1, h2, h3, h4⟩
        by_cases e : i = k
        · subst e; simp [upd] at h3
        · exact ⟨i, y, h1, h2, by simpa [upd, e] using h3, h4⟩

theorem turn_none {L : Int → List Int} {c : Int} (h : qturn L c = 0) : ∀ j, 1 ≤ j → j ≤ 4 → L j = [] := by
  unfold qturn at h
  split at h
  · omega
  rename_i h4
  split at h
  · omega
  rename_i h3
  split at h
  · omega
  rename_i h2
  split at h
  · omega
  rename_i h1
  have e1 : L 1 = [] := by simpa using h1
  have e4 : L 4 = [] := by simpa using h4
  have e3 : L 3 = [] := by simpa using h3
  have e2 : L 2 = [] := by
    rcases Classical.em (L 2 = []) with h | h
    · exact h
    · exact absurd ⟨h, .inl e1⟩ h2
  intro j j1 j4
  have : j = 1 ∨ j = 2 ∨ j = 3 ∨ j = 4 := by omega
  rcases this with rfl | rfl | rfl | rfl <;> assumption
end Go.Proofs.Ytjdinopiipmojaa
