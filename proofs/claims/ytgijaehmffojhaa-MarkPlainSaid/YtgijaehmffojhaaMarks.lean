/- The marked mailbox: find, Mark, Use. -/
import Derived.Test.YtgijaehmffojhaaBox
import Derived.Deep.LoopGhost
namespace Go.Proofs.Ytgijaehmffojhaa
open Go.RowKit

/-- The place of a reference; -1: there is none. -/
def place {α : Type} (f : α → Int) (r : Int) (l : List α) : Int := match l.findIdx? (fun m => f m == r) with | some i => (i : Int) | none => -1

theorem place_none {α : Type} {f : α → Int} {r : Int} {l : List α} (h : ∀ e ∈ l, f e ≠ r) : place f r l = -1 := by
  unfold place
  rw [List.findIdx?_eq_none_iff.2 (fun e he => by simpa using h e he)]

theorem place_some {α : Type} {f : α → Int} {r : Int} {l : List α} {i : Nat} {e : α} (h : l[i]? = some e) (hf : f e = r) (hn : ∀ e ∈ l.take i, f e ≠ r) : place f r l = i := by
  unfold place
  have : l.findIdx? (fun m => f m == r) = some i := by
    rw [List.findIdx?_eq_some_iff_getElem]
    obtain ⟨hi, he⟩ := List.getElem?_eq_some_iff.1 h
    refine ⟨hi, by rw [he]; simpa using hf, fun j hj => ?_⟩
    have := hn (l[j]'(by omega)) (by rw [List.mem_take_iff_getElem]; exact ⟨j, by omega, rfl⟩)
    simpa using this
  rw [this]

theorem place_cases {α : Type} (f : α → Int) (r : Int) (l : List α) :
    (place f r l = -1 ∧ ∀ e ∈ l, f e ≠ r) ∨ ∃ (i : Nat) (e : α), place f r l = i ∧ l[i]? = some e ∧ f e = r ∧ ∀ e ∈ l.take i, f e ≠ r := by
  unfold place
  cases h : l.findIdx? (fun m => f m == r) with
  | none => exact .inl ⟨rfl, fun e he => by have := List.findIdx?_eq_none_iff.1 h e he; simpa using this⟩
  | some i =>
    rw [List.findIdx?_eq_some_iff_getElem] at h
    obtain ⟨hi, h1, h2⟩ := h
    refine .inr ⟨i, l[i], rfl, List.getElem?_eq_getElem hi, by simpa using h1, fun e he => ?_⟩
    rw [List.mem_take_iff_getElem] at he
    obtain ⟨j, hj, rfl⟩ := he
    have := h2 j (by omega)
    simpa using this

theorem mcs_at (ns : List (Nat × Int)) : ∀ (ms : List (Int × Nat)) (i : Nat) (a : Int) (b : Nat), ms[i]? = some (a, b) → (mcs ns ms)[i * 2]? = some (.int .i64 a) ∧ (mcs ns ms)[i * 2 + 1]? = some (ptr (pos ns b))
  | [], i, a, b, h => by simp at h
  | m :: ms, 0, a, b, h => by simp at h; subst h; exact ⟨rfl, rfl⟩
  | m :: ms, i + 1, a, b, h => by
    simp only [List.getElem?_cons_succ] at h
    have := mcs_at ns ms i a b h
    rw [show (i + 1) * 2 = i * 2 + 1 + 1 by omega]
    exact this

theorem mcs_cat (ns : List (Nat × Int)) : ∀ (E F : List (Int × Nat)), mcs ns (E ++ F) = mcs ns E ++ mcs ns F
  | [], F => rfl
  | e :: E, F => by simp only [List.cons_append, mcs, mcs_cat ns E F]

theorem mcs_take (ns : List (Nat × Int)) : ∀ (E : List (Int × Nat)) (k : Nat), (mcs ns E).take (k * 2) = mcs ns (E.take k)
  | [], k => by simp [mcs]
  | e :: E, 0 => by simp [mcs]
  | e :: E, k + 1 => by
    rw [show (k + 1) * 2 = k * 2 + 1 + 1 by omega]
    simp only [mcs, List.take_succ_cons, mcs_take ns E k]

theorem mcs_drop (ns : List (Nat × Int)) : ∀ (E : List (Int × Nat)) (k : Nat), (mcs ns E).drop (k * 2) = mcs ns (E.drop k)
  | [], k => by simp [mcs]
  | e :: E, 0 => by simp [mcs]
  | e :: E, k + 1 => by
    rw [show (k + 1) * 2 = k * 2 + 1 + 1 by omega]
    simp only [mcs, List.drop_succ_cons, mcs_drop ns E k]

theorem mcs_one (ns : List (Nat × Int)) : ∀ (E : List (Int × Nat)), ∀ u ∈ mcs ns E, u.oneCell' = true
  | [], u, h => by simp [mcs] at h
  | e :: E, u, h => by
    simp only [mcs, List.mem_cons] at h
    rcases h with rfl | rfl | h
    · rfl
    · rw [ptr_shape]; rfl
    · exact mcs_one ns E u h

set_option maxHeartbeats 1600000 in
theorem find_any (p : Nat) (mv : Value) (X : Bx) (ref : Int) (w : World) (h : Mb w p mv X) (hl : X.ms.length ≤ 1000) :
    Calls Try.prog 45 #[.pointer (some ⟨p, 0, none⟩), .int .i64 ref] w fun e w' => e = .returned (.int .i64 (place (·.1) ref X.ms)) ∧ Below w.heap.size w w' := by
  obtain ⟨ao, cap, rfl, hcap, hmax⟩ := h.own.shape
  have c7 := blk_cell h.dl.blk 7
  simp at c7
  unfold maxLen at hmax
  go_enter Try.func45, Try.ntmps45
  go_wp2_with fail
  go_step3
  go_wp2_with fail
  go_step3
  go_wp2_with fail
  go_loopg [5, 13] X.ms.length (fun g s5 s13 wr => ∃ k : Nat, k + g = X.ms.length ∧ s5 = .int .i64 (-1) ∧ s13 = .int .i64 k ∧ Below w.heap.size w wr ∧ Hid (∀ e ∈ X.ms.take k, e.1 ≠ ref))
  case atStart => exact ⟨0, by omega, rfl, rfl, Below.refl _ _, Lib.hid (by simp)⟩
  case round =>
    obtain ⟨k, hk, rfl, rfl, hb, hno⟩ := hrel
    cases gk with
    | zero =>
      obtain rfl : k = X.ms.length := by omega
      go_wp2_with fail
      rw [Exit.noGoto_ret]
      go_ret
      have hn := hno.out
      rw [List.take_of_length_le (Nat.le_refl _)] at hn
      exact ⟨by rw [place_none hn]; rfl, hb⟩
    | succ g =>
      obtain ⟨⟨r, m⟩, hx⟩ : ∃ x, X.ms[k]? = some x := ⟨X.ms[k]'(by omega), List.getElem?_eq_getElem _⟩
      have hs := (h.keep (bel_fr0 hb) (fun _ _ h => h)).own
      obtain ⟨b, off, cap', hv', _, _, hcell⟩ := hs.rd.at (by omega)
      simp at hv'
      obtain ⟨rfl, rfl⟩ := hv'
      have d0 := hcell (k * 2) (by omega)
      have d1 := hcell (k * 2 + 1) (by omega)
      rw [(mcs_at _ _ k r m hx).1] at d0
      rw [(mcs_at _ _ k r m hx).2, ← Nat.add_assoc] at d1
      clear hcell hs
      have HX := Lib.hid hx
      clear hx
      rw [ptr_shape] at d1
      generalize Option.map (fun b => (⟨b, 0, none⟩ : Addr)) (pos X.ns m) = om at d1
      obtain ⟨N, hN⟩ : ∃ N, wr.heap.size = N := ⟨_, rfl⟩
      obtain ⟨w2, hw2⟩ : ∃ w2, wr.alloc (.cells #[.int .i64 r, .pointer om] 78) = w2 := ⟨_, rfl⟩
      have hn2 : w2.heap[N]? = some (.cells #[.int .i64 r, .pointer om] 78 (0, 0)) := by subst hw2 hN; exact heap_alloc_new wr _
      have hb2 : Below w.heap.size w w2 := by subst hw2; exact hb.alloc hb.size _
      have e0 := blk_cell hn2 0
      simp at e0
      by_cases hr : r = ref
      · subst hr
        go_wp2_with fail
        rw [Exit.noGoto_ret]
        go_ret
        exact ⟨by rw [place_some HX.out rfl hno.out]; rfl, hb2⟩
      · go_wp2_with fail
        go_roundg g
        case measure => omega
        case rel =>
          refine ⟨k + 1, by omega, rfl, by go_num, hb2, Lib.hid ?_⟩
          rw [List.take_add_one, HX.out]
          intro e he
          simp at he
          rcases he with he | rfl
          · exact hno.out e he
          · exact hr
end Go.Proofs.Ytgijaehmffojhaa
