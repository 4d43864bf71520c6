/- The linked list in memory: nodes of which each knows the one ahead and the one behind; push and out. -/
import Derived.Test.YtgijaehmffojhaaBase
import Derived.StillTailTactics
import Derived.Deep.DeepCutAuto
namespace Go.Proofs.Ytgijaehmffojhaa
open Go.RowKit

def ptr : Option Nat → Value
  | none => .pointer none
  | some b => .pointer (some ⟨b, 0, none⟩)

/-- The node at a position: 0: there is none; k + 1: the k-th one (beyond the end: none). -/
def pos (ns : List (Nat × Int)) : Nat → Option Nat
  | 0 => none
  | k + 1 => (ns[k]?).map (·.1)

theorem pos_at {ns : List (Nat × Int)} {k : Nat} {b : Nat} {x : Int} (h : ns[k]? = some (b, x)) : pos ns (k + 1) = some b := by simp [pos, h]
theorem pos_over {ns : List (Nat × Int)} {k : Nat} (h : ns.length < k) : pos ns k = none := by
  cases k with
  | zero => omega
  | succ k => simp [pos, List.getElem?_eq_none (show ns.length ≤ k by omega)]
theorem pos_app {ns l : List (Nat × Int)} {k : Nat} (h : k ≤ ns.length) : pos (ns ++ l) k = pos ns k := by
  cases k with
  | zero => rfl
  | succ k => simp [pos, List.getElem?_append_left (show k < ns.length by omega)]
theorem pos_new {ns : List (Nat × Int)} {b : Nat} {x : Int} : pos (ns ++ [(b, x)]) (ns.length + 1) = some b := by simp [pos]
theorem pos_new' {ns : List (Nat × Int)} {b : Nat} {x : Int} {k : Nat} (h : k = ns.length + 1) : pos (ns ++ [(b, x)]) k = some b := by subst h; exact pos_new
theorem pos_cut {ns : List (Nat × Int)} {k i : Nat} : pos (ns.eraseIdx k) i = if i ≤ k then pos ns i else pos ns (i + 1) := by
  cases i with
  | zero => simp [pos]
  | succ i =>
    simp only [pos, List.getElem?_eraseIdx]
    by_cases h : i < k
    · rw [if_pos h, if_pos (by omega)]
    · rw [if_neg h, if_neg (by omega)]

theorem nd_at {ns : List (Nat × Int)} (nd : (ns.map (·.1)).Nodup) {i j b : Nat} {x y : Int} (hi : ns[i]? = some (b, x)) (hj : ns[j]? = some (b, y)) : i = j := by
  have h1 : (ns.map (·.1))[i]? = some b := by simp [hi]
  have h2 : (ns.map (·.1))[j]? = some b := by simp [hj]
  exact (List.getElem?_inj (List.getElem?_eq_some_iff.1 h1).1 nd).1 (h1.trans h2.symm)

/-- The list whose three cells are the first of block p; the block's other cells are r3 .. r8. -/
structure Dl (w : World) (p : Nat) (ns : List (Nat × Int)) (r3 r4 r5 r6 r7 r8 : Value) : Prop where
  blk : w.heap[p]? = some (.cells #[ptr (pos ns 1), ptr (pos ns ns.length), .int .i64 (ns.length : Int), r3, r4, r5, r6, r7, r8] 69 (0, 0))
  nodes : ∀ (i b : Nat) (x : Int), ns[i]? = some (b, x) → w.heap[b]? = some (.cells #[.int .u64 x, ptr (pos ns i), ptr (pos ns (i + 2))] 72 (0, 0))
  nd : (ns.map (·.1)).Nodup

def df (p : Nat) (ns : List (Nat × Int)) (k : Nat) : Prop := k = p ∨ k ∈ ns.map (·.1)

theorem mem_at {ns : List (Nat × Int)} {k : Nat} (h : k ∈ ns.map (·.1)) : ∃ (i : Nat) (x : Int), ns[i]? = some (k, x) := by
  obtain ⟨⟨b, x⟩, hm, rfl⟩ := List.mem_map.1 h
  obtain ⟨i, hi⟩ := List.getElem?_of_mem hm
  exact ⟨i, x, hi⟩

theorem at_mem {ns : List (Nat × Int)} {i k : Nat} {x : Int} (h : ns[i]? = some (k, x)) : k ∈ ns.map (·.1) := List.mem_map.2 ⟨_, List.mem_of_getElem? h, rfl⟩

theorem Dl.lt {w : World} {p : Nat} {ns : List (Nat × Int)} {r3 r4 r5 r6 r7 r8 : Value} (h : Dl w p ns r3 r4 r5 r6 r7 r8) : ∀ k, df p ns k → k < w.heap.size := by
  rintro k (rfl | hk)
  · exact blk_lt h.blk
  · obtain ⟨i, x, hi⟩ := mem_at hk
    exact blk_lt (h.nodes i k x hi)

theorem Dl.ne {w : World} {p : Nat} {ns : List (Nat × Int)} {r3 r4 r5 r6 r7 r8 : Value} (h : Dl w p ns r3 r4 r5 r6 r7 r8) {i b : Nat} {x : Int} (hi : ns[i]? = some (b, x)) : b ≠ p := by
  rintro rfl
  have h1 := h.nodes i b x hi
  rw [h.blk] at h1
  simp at h1

theorem Dl.keep {w w' : World} {p : Nat} {ns : List (Nat × Int)} {r3 r4 r5 r6 r7 r8 : Value} (h : Dl w p ns r3 r4 r5 r6 r7 r8) {F : Nat → Prop} (hf : Fr F w w') (hF : ∀ k, df p ns k → ¬ F k) : Dl w' p ns r3 r4 r5 r6 r7 r8 :=
  ⟨hf.at h.blk (hF p (.inl rfl)), fun i b x hi => hf.at (h.nodes i b x hi) (hF b (.inr (at_mem hi))), h.nd⟩

theorem push_dl {w w' : World} {p N : Nat} {ns : List (Nat × Int)} {v : Int} {r3 r4 r5 r6 r7 r8 : Value} (h : Dl w p ns r3 r4 r5 r6 r7 r8) (hN : w.heap.size ≤ N)
    (hp : w'.heap[p]? = some (.cells #[ptr (if ns = [] then some N else pos ns 1), ptr (some N), .int .i64 ((ns.length : Int) + 1), r3, r4, r5, r6, r7, r8] 69 (0, 0)))
    (hn : w'.heap[N]? = some (.cells #[.int .u64 v, ptr (pos ns ns.length), ptr none] 72 (0, 0)))
    (ho : ∀ (i b : Nat) (x : Int), ns[i]? = some (b, x) → w'.heap[b]? = some (.cells #[.int .u64 x, ptr (pos ns i), ptr (if i + 1 = ns.length then some N else pos ns (i + 2))] 72 (0, 0))) :
    Dl w' p (ns ++ [(N, v)]) r3 r4 r5 r6 r7 r8 := by
  refine ⟨?_, fun i b x hi => ?_, ?_⟩
  · have e1 : (if ns = [] then some N else pos ns 1) = pos (ns ++ [(N, v)]) 1 := by
      by_cases e : ns = []
      · subst e; rfl
      · rw [if_neg e, pos_app (by have := List.length_pos_iff.2 e; omega)]
    have e2 : ((ns.length + 1 : Nat) : Int) = (ns.length : Int) + 1 := by omega
    rw [hp, List.length_append, List.length_singleton, pos_new, e1, e2]
  · by_cases hlt : i < ns.length
    · rw [List.getElem?_append_left hlt] at hi
      rw [ho i b x hi, pos_app (by omega)]
      by_cases e : i + 1 = ns.length
      · rw [if_pos e, pos_new' (by omega)]
      · rw [if_neg e, pos_app (by omega)]
    · rw [List.getElem?_append_right (by omega)] at hi
      have h0 : i = ns.length := by
        rcases Nat.lt_or_ge ns.length i with h' | h'
        · rw [List.getElem?_eq_none (by simp; omega)] at hi; cases hi
        · omega
      subst h0
      simp at hi
      obtain ⟨rfl, rfl⟩ := hi
      rw [hn, pos_app (Nat.le_refl _), pos_over (show (ns ++ [(N, v)]).length < ns.length + 2 by simp)]
  · rw [List.map_append, List.nodup_append]
    refine ⟨h.nd, by simp, fun a ha b hb => ?_⟩
    simp only [List.map_cons, List.map_nil, List.mem_singleton] at hb
    subst hb
    have := h.lt a (.inr ha)
    omega

theorem out_dl {w w' : World} {p : Nat} {ns : List (Nat × Int)} {k : Nat} {r3 r4 r5 r6 r7 r8 : Value} (h : Dl w p ns r3 r4 r5 r6 r7 r8) (hk : k < ns.length)
    (hp : w'.heap[p]? = some (.cells #[ptr (if k = 0 then pos ns 2 else pos ns 1), ptr (if k + 1 = ns.length then pos ns k else pos ns ns.length), .int .i64 ((ns.length : Int) - 1), r3, r4, r5, r6, r7, r8] 69 (0, 0)))
    (ho : ∀ (i b : Nat) (x : Int), ns[i]? = some (b, x) → i ≠ k →
      w'.heap[b]? = some (.cells #[.int .u64 x, ptr (if i = k + 1 then pos ns k else pos ns i), ptr (if i + 1 = k then pos ns (k + 2) else pos ns (i + 2))] 72 (0, 0))) :
    Dl w' p (ns.eraseIdx k) r3 r4 r5 r6 r7 r8 := by
  have hl : (ns.eraseIdx k).length = ns.length - 1 := by rw [List.length_eraseIdx_of_lt hk]
  refine ⟨?_, fun i b x hi => ?_, ?_⟩
  · have e1 : (if k = 0 then pos ns 2 else pos ns 1) = pos (ns.eraseIdx k) 1 := by
      rw [pos_cut]
      by_cases e : k = 0
      · rw [if_pos e, if_neg (by omega)]
      · rw [if_neg e, if_pos (by omega)]
    have e2 : (if k + 1 = ns.length then pos ns k else pos ns ns.length) = pos (ns.eraseIdx k) (ns.length - 1) := by
      rw [pos_cut]
      by_cases e : k + 1 = ns.length
      · rw [if_pos e, if_pos (by omega), show ns.length - 1 = k by omega]
      · rw [if_neg e, if_neg (by omega), show ns.length - 1 + 1 = ns.length by omega]
    have e3 : ((ns.length - 1 : Nat) : Int) = (ns.length : Int) - 1 := by omega
    rw [hp, hl, e1, e2, e3]
  · rw [List.getElem?_eraseIdx] at hi
    by_cases hik : i < k
    · rw [if_pos hik] at hi
      rw [ho i b x hi (by omega), pos_cut, pos_cut, if_neg (show ¬ i = k + 1 by omega), if_pos (show i ≤ k by omega)]
      by_cases e : i + 1 = k
      · rw [if_pos e, if_neg (show ¬ i + 2 ≤ k by omega)]
        subst e; rfl
      · rw [if_neg e, if_pos (show i + 2 ≤ k by omega)]
    · rw [if_neg hik] at hi
      rw [ho (i + 1) b x hi (by omega), pos_cut, pos_cut, if_neg (show ¬ i + 1 + 1 = k by omega), if_neg (show ¬ i + 2 ≤ k by omega)]
      by_cases e : i = k
      · subst e; rw [if_pos rfl, if_pos (Nat.le_refl _)]
      · rw [if_neg (show ¬ i + 1 = k + 1 by omega), if_neg (show ¬ i ≤ k by omega)]
  · exact h.nd.sublist ((List.eraseIdx_sublist ns k).map _)
end Go.Proofs.Ytgijaehmffojhaa
