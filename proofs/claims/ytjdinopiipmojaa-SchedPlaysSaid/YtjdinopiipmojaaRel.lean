/- The four lists, and the document's one list. -/
import Derived.Test.YtjdinopiipmojaaSame
namespace Go.Proofs.Ytjdinopiipmojaa
open Go.RowKit

/-- The pids of one priority, in the order in which they were added. -/
def lst (E : List (Int × Int)) (k : Int) : List Int := (E.filter (fun e => e.2 == k)).map (·.1)

/-- The place of the first that is meant; -1: there is none. -/
def place (f : Int × Int → Bool) (E : List (Int × Int)) : Int := match E.findIdx? f with | some i => (i : Int) | none => -1

def cutE (E : List (Int × Int)) (i : Nat) : List (Int × Int) := E.take i ++ E.drop (i + 1)

theorem place_none {f : Int × Int → Bool} {E : List (Int × Int)} (h : ∀ e ∈ E, f e = false) : place f E = -1 := by
  unfold place
  rw [List.findIdx?_eq_none_iff.2 h]

theorem place_some {f : Int × Int → Bool} {E : List (Int × Int)} {i : Nat} {e : Int × Int} (h : E[i]? = some e) (hf : f e = true) (hn : ∀ e ∈ E.take i, f e = false) : place f E = i := by
  unfold place
  have : E.findIdx? f = some i := by
    rw [List.findIdx?_eq_some_iff_getElem]
    obtain ⟨hi, he⟩ := List.getElem?_eq_some_iff.1 h
    refine ⟨hi, by rw [he]; exact hf, fun j hj => ?_⟩
    have := hn (E[j]'(by omega)) (by rw [List.mem_take_iff_getElem]; exact ⟨j, by omega, rfl⟩)
    rw [this]
    decide
  rw [this]

theorem place_cases (f : Int × Int → Bool) (E : List (Int × Int)) :
    (place f E = -1 ∧ ∀ e ∈ E, f e = false) ∨ ∃ (i : Nat) (e : Int × Int), place f E = i ∧ E[i]? = some e ∧ f e = true ∧ ∀ e ∈ E.take i, f e = false := by
  unfold place
  cases h : E.findIdx? f with
  | none => exact .inl ⟨rfl, List.findIdx?_eq_none_iff.1 h⟩
  | some i =>
    rw [List.findIdx?_eq_some_iff_getElem] at h
    obtain ⟨hi, h1, h2⟩ := h
    refine .inr ⟨i, E[i], rfl, List.getElem?_eq_getElem hi, h1, fun e he => ?_⟩
    rw [List.mem_take_iff_getElem] at he
    obtain ⟨j, hj, rfl⟩ := he
    have := h2 j (by omega)
    simpa using this

/-- An element taken out is what a filter leaves, where no key comes twice. -/
theorem cut_filter {α β : Type} [DecidableEq β] (f : α → β) : ∀ (l : List α) (i : Nat) (a : α), (l.map f).Nodup → l[i]? = some a → l.take i ++ l.drop (i + 1) = l.filter (fun x => !(f x == f a))
  | [], i, a, _, h => by simp at h
  | x :: l, 0, a, hn, h => by
    simp at h
    subst h
    simp only [List.map_cons, List.nodup_cons] at hn
    simp only [List.take_zero, List.nil_append, Nat.zero_add, List.drop_succ_cons, List.drop_zero]
    rw [List.filter_cons, if_neg (by simp)]
    symm
    rw [List.filter_eq_self]
    intro y hy
    simp
    intro e
    exact hn.1 (by rw [← e]; exact List.mem_map_of_mem hy)
  | x :: l, i + 1, a, hn, h => by
    simp only [List.getElem?_cons_succ] at h
    simp only [List.map_cons, List.nodup_cons] at hn
    have hx : f x ≠ f a := fun e => hn.1 (by rw [e]; exact List.mem_map_of_mem (List.mem_of_getElem? h))
    simp only [List.take_succ_cons, List.drop_succ_cons, List.cons_append]
    rw [List.filter_cons, if_pos (by simpa using hx), cut_filter f l i a hn.2 h]

theorem lst_mem {E : List (Int × Int)} {k x : Int} : x ∈ lst E k ↔ (x, k) ∈ E := by
  unfold lst
  simp only [List.mem_map, List.mem_filter, beq_iff_eq]
  constructor
  · rintro ⟨⟨a, b⟩, ⟨h1, h2⟩, h3⟩
    simp at h2 h3
    subst h2 h3
    exact h1
  · exact fun h => ⟨(x, k), ⟨h, rfl⟩, rfl⟩

theorem lst_add (E : List (Int × Int)) (pid pr : Int) : setL (lst E) pr (lst E pr ++ [pid]) = lst (E ++ [(pid, pr)]) := by
  funext j
  unfold setL lst
  by_cases h : j = pr
  · subst h; simp
  · rw [if_neg h, List.filter_append]
    simp
    exact fun e => h e.symm

structure Good (E : List (Int × Int)) : Prop where
  nd : (E.map (·.1)).Nodup
  pr : ∀ e ∈ E, 1 ≤ e.2 ∧ e.2 ≤ 4

theorem sum_one (E : List (Int × Int)) (pid pr : Int) (h1 : 1 ≤ pr) (h4 : pr ≤ 4) : sumL (lst ((pid, pr) :: E)) 4 = sumL (lst E) 4 + 1 := by
  have : pr = 1 ∨ pr = 2 ∨ pr = 3 ∨ pr = 4 := by omega
  rcases this with rfl | rfl | rfl | rfl <;> simp [sumL, lst] <;> omega

theorem sum_len : ∀ (E : List (Int × Int)), (∀ e ∈ E, 1 ≤ e.2 ∧ e.2 ≤ 4) → sumL (lst E) 4 = E.length
  | [], _ => by simp [sumL, lst]
  | (pid, pr) :: E, h => by
    have h0 := h (pid, pr) (by simp)
    rw [sum_one E pid pr h0.1 h0.2, sum_len E (fun e he => h e (by simp [he]))]
    rfl

theorem Good.mem_iff {E : List (Int × Int)} (h : Good E) (pid : Int) : (∃ j, 1 ≤ j ∧ j ≤ 4 ∧ pid ∈ lst E j) ↔ ∃ e ∈ E, e.1 = pid := by
  constructor
  · rintro ⟨j, _, _, hj⟩
    exact ⟨_, lst_mem.1 hj, rfl⟩
  · rintro ⟨⟨a, b⟩, he, rfl⟩
    have := h.pr _ he
    exact ⟨b, this.1, this.2, lst_mem.2 he⟩

theorem Good.cut {E : List (Int × Int)} (h : Good E) (i : Nat) : Good (cutE E i) := by
  have hs : (cutE E i).Sublist E := by
    unfold cutE
    have := (List.Sublist.refl (E.take i)).append (List.drop_sublist 1 (E.drop i))
    rw [List.drop_drop] at this
    simpa using this
  exact ⟨h.nd.sublist (hs.map _), fun e he => h.pr e (hs.subset he)⟩

theorem Good.add {E : List (Int × Int)} (h : Good E) {pid pr : Int} (h1 : 1 ≤ pr) (h4 : pr ≤ 4) (hn : ∀ e ∈ E, e.1 ≠ pid) : Good (E ++ [(pid, pr)]) := by
  refine ⟨?_, fun e he => ?_⟩
  · rw [List.map_append, List.nodup_append]
    refine ⟨h.nd, by simp, ?_⟩
    intro a ha b hb
    simp at ha hb
    obtain ⟨p, hp⟩ := ha
    subst hb
    exact hn _ hp
  · simp at he
    rcases he with he | rfl
    · exact h.pr e he
    · exact ⟨h1, h4⟩

theorem nd_inj : ∀ (E : List (Int × Int)), (E.map (·.1)).Nodup → ∀ a b, a ∈ E → b ∈ E → a.1 = b.1 → a = b
  | [], _, a, _, ha, _, _ => by simp at ha
  | e :: E, hn, a, b, ha, hb, h => by
    simp only [List.map_cons, List.nodup_cons] at hn
    simp only [List.mem_cons] at ha hb
    rcases ha with rfl | ha
    · rcases hb with rfl | hb
      · rfl
      · exact absurd (by rw [h]; exact List.mem_map_of_mem hb) hn.1
    · rcases hb with rfl | hb
      · exact absurd (by rw [← h]; exact List.mem_map_of_mem ha) hn.1
      · exact nd_inj E hn.2 a b ha hb h

/-- One taken out by its pid. -/
theorem lst_drop {E : List (Int × Int)} (h : Good E) {i j : Nat} {pid k k' : Int} (hi : (lst E k)[i]? = some pid) (hj : E[j]? = some (pid, k')) : setL (lst E) k (cutAt (lst E k) i) = lst (cutE E j) := by
  have hm := lst_mem.1 (List.mem_of_getElem? hi)
  have hkk : ∀ q, (pid, q) ∈ E → q = k := by
    intro q hq
    have := nd_inj E h.nd _ _ hq hm rfl
    simpa using this
  have hnl : ∀ q, ((lst E q).map id).Nodup := by
    intro q
    rw [List.map_id]
    unfold lst
    exact h.nd.sublist ((List.filter_sublist).map _)
  have e1 : cutE E j = E.filter (fun x => !(x.1 == pid)) := cut_filter (fun x : Int × Int => x.1) E j (pid, k') h.nd hj
  have e2 : cutAt (lst E k) i = (lst E k).filter (fun x => !(x == pid)) := cut_filter id (lst E k) i pid (hnl k) hi
  rw [e1]
  funext q
  unfold setL
  by_cases hq : q = k
  · subst hq
    rw [if_pos rfl, e2]
    unfold lst
    rw [List.filter_map, List.filter_filter, List.filter_filter]
    congr 1
    apply List.filter_congr
    intro x _
    simp [Bool.and_comm]
  · rw [if_neg hq]
    unfold lst
    rw [List.filter_filter]
    congr 1
    apply List.filter_congr
    intro x hx
    by_cases hxq : x.2 = q
    · have : x.1 ≠ pid := fun e => hq (by rw [← hxq]; exact hkk x.2 (by rw [← e]; exact hx))
      simp [hxq, this]
    · simp [hxq]

/-- The place of the one whose turn it is. -/
def rturn (E : List (Int × Int)) (c : Int) : Int :=
  if 0 ≤ place (fun e => e.2 == 4) E then place (fun e => e.2 == 4) E
  else if 0 ≤ place (fun e => e.2 == 3) E then place (fun e => e.2 == 3) E
  else if place (fun e => e.2 == 2) E < 0 ∨ (0 ≤ place (fun e => e.2 == 1) E ∧ 8 ≤ c) then place (fun e => e.2 == 1) E
  else place (fun e => e.2 == 2) E

theorem lst_nil {E : List (Int × Int)} {k : Int} (h : ∀ e ∈ E, (fun e : Int × Int => e.2 == k) e = false) : lst E k = [] := by
  unfold lst
  rw [List.filter_eq_nil_iff.2 (fun e he => by have := h e he; simpa using this)]
  rfl

theorem lst_first {E : List (Int × Int)} {k : Int} {i : Nat} {e : Int × Int} (h : E[i]? = some e) (he : e.2 = k) (hn : ∀ e ∈ E.take i, (fun e : Int × Int => e.2 == k) e = false) :
    lst E k = e.1 :: lst (cutE E i) k ∧ setL (lst E) k (lst (cutE E i) k) = lst (cutE E i) := by
  have hE : E = E.take i ++ e :: E.drop (i + 1) := by
    obtain ⟨hi, h'⟩ := List.getElem?_eq_some_iff.1 h
    rw [← h', ← List.drop_eq_getElem_cons hi, List.take_append_drop]
  have h0 : ∀ j, lst E j = lst (E.take i) j ++ (if e.2 = j then [e.1] else []) ++ lst (E.drop (i + 1)) j := by
    intro j
    conv => lhs; rw [hE]
    unfold lst
    rw [List.filter_append, List.filter_cons]
    by_cases hj : e.2 = j
    · simp [hj]
    · simp [hj]
  have hc : ∀ j, lst (cutE E i) j = lst (E.take i) j ++ lst (E.drop (i + 1)) j := by
    intro j
    unfold lst cutE
    simp
  constructor
  · rw [h0, hc, if_pos he, lst_nil hn]
    simp
  · funext j
    unfold setL
    by_cases hj : j = k
    · rw [if_pos hj, hj]
    · rw [if_neg hj, h0, hc, if_neg (by omega)]
      simp

/-- Whose turn it is: the four lists and the one list say the same. -/
theorem turn_same (E : List (Int × Int)) (c : Int) :
    (rturn E c = -1 ∧ qturn (lst E) (min c 8) = 0) ∨
    ∃ (i : Nat) (x k : Int), rturn E c = i ∧ E[i]? = some (x, k) ∧ qturn (lst E) (min c 8) = k ∧ 1 ≤ k ∧ k ≤ 4 ∧ lst E k = x :: lst (cutE E i) k ∧ setL (lst E) k (lst (cutE E i) k) = lst (cutE E i) := by
  have one : ∀ (k : Int) (i : Nat) (e : Int × Int), 1 ≤ k → k ≤ 4 → rturn E c = i → E[i]? = some e → (e.2 == k) = true → (∀ e ∈ E.take i, (fun e : Int × Int => e.2 == k) e = false) → qturn (lst E) (min c 8) = k →
      ∃ (i : Nat) (x k : Int), rturn E c = i ∧ E[i]? = some (x, k) ∧ qturn (lst E) (min c 8) = k ∧ 1 ≤ k ∧ k ≤ 4 ∧ lst E k = x :: lst (cutE E i) k ∧ setL (lst E) k (lst (cutE E i) k) = lst (cutE E i) := by
    rintro k i ⟨x, p⟩ k1 k4 h1 h2 h3 h4 h5
    simp at h3
    subst h3
    obtain ⟨h6, h7⟩ := lst_first h2 rfl h4
    exact ⟨i, x, p, h1, h2, h5, k1, k4, h6, h7⟩
  have ne : ∀ (k : Int) (i : Nat) (e : Int × Int), E[i]? = some e → (e.2 == k) = true → lst E k ≠ [] := by
    intro k i e he hk
    simp at hk
    have : e.1 ∈ lst E k := lst_mem.2 (by rw [← hk]; exact List.mem_of_getElem? he)
    exact List.ne_nil_of_mem this
  rcases place_cases (fun e => e.2 == 4) E with ⟨p4, h4⟩ | ⟨i, e, p4, he, hf, hn⟩
  rotate_left 1
  · exact .inr (one 4 i e (by omega) (by omega) (by unfold rturn; rw [if_pos (by omega), p4]) he hf hn (by unfold qturn; rw [if_pos (ne 4 i e he hf)]))
  have l4 := lst_nil h4
  rcases place_cases (fun e => e.2 == 3) E with ⟨p3, h3⟩ | ⟨i, e, p3, he, hf, hn⟩
  rotate_left 1
  · exact .inr (one 3 i e (by omega) (by omega) (by unfold rturn; rw [if_neg (by omega), if_pos (by omega), p3]) he hf hn (by unfold qturn; rw [if_neg (by simp [l4]), if_pos (ne 3 i e he hf)]))
  have l3 := lst_nil h3
  rcases place_cases (fun e => e.2 == 2) E with ⟨p2, h2⟩ | ⟨i2, e2, p2, he2, hf2, hn2⟩
  · have l2 := lst_nil h2
    rcases place_cases (fun e => e.2 == 1) E with ⟨p1, h1⟩ | ⟨i, e, p1, he, hf, hn⟩
    · have l1 := lst_nil h1
      exact .inl ⟨by unfold rturn; rw [if_neg (by omega), if_neg (by omega), if_pos (by omega), p1], by simp [qturn, l1, l2, l3, l4]⟩
    · have hne := ne 1 i e he hf
      exact .inr (one 1 i e (by omega) (by omega) (by unfold rturn; rw [if_neg (by omega), if_neg (by omega), if_pos (by omega), p1]) he hf hn (by simp [qturn, hne, l2, l3, l4]))
  · have hne2 := ne 2 i2 e2 he2 hf2
    rcases place_cases (fun e => e.2 == 1) E with ⟨p1, h1⟩ | ⟨i, e, p1, he, hf, hn⟩
    · have l1 := lst_nil h1
      exact .inr (one 2 i2 e2 (by omega) (by omega) (by unfold rturn; rw [if_neg (by omega), if_neg (by omega), if_neg (by omega), p2]) he2 hf2 hn2 (by simp [qturn, l1, hne2, l3, l4]))
    · have hne := ne 1 i e he hf
      by_cases hc : 8 ≤ c
      · exact .inr (one 1 i e (by omega) (by omega) (by unfold rturn; rw [if_neg (by omega), if_neg (by omega), if_pos (by omega), p1]) he hf hn (by
          unfold qturn
          rw [if_neg (by simp [l4]), if_neg (by simp [l3]), if_neg, if_pos hne]
          rintro ⟨_, h | h⟩
          · exact hne h
          · omega))
      · exact .inr (one 2 i2 e2 (by omega) (by omega) (by unfold rturn; rw [if_neg (by omega), if_neg (by omega), if_neg (by omega), p2]) he2 hf2 hn2 (by
          unfold qturn
          rw [if_neg (by simp [l4]), if_neg (by simp [l3]), if_pos ⟨hne2, .inr (by omega)⟩]))

def rcount (k c : Int) : Int := if k = 2 then c + 1 else if k = 1 then 0 else c

theorem rcount_min (k c : Int) : min (rcount k c) 8 = qcount k (min c 8) := by
  unfold rcount qcount
  split
  · omega
  split
  · rfl
  · rfl
end Go.Proofs.Ytjdinopiipmojaa
