/- The document's own queue: what each of its calls does to a queue in memory. -/
import Derived.Test.YtjdinopiipmojaaRel
namespace Go.Proofs.Ytjdinopiipmojaa
open Go.RowKit

theorem Try.info64 : (Try.prog.info? 64).map (fun i => (i.zero, i.size, i.bytes)) = some (some (.agg #[.int .i64 0, .int .i64 0]), 2, 16) := by kernel_rfl

def ents : List (Int × Int) → List Value
  | [] => []
  | e :: E => .int .i64 e.1 :: .int .i64 e.2 :: ents E

theorem ents_len : ∀ E, (ents E).length = E.length * 2
  | [] => rfl
  | e :: E => by simp only [ents, List.length_cons, ents_len E]; omega

theorem ents_at : ∀ (E : List (Int × Int)) (i : Nat) (a b : Int), E[i]? = some (a, b) → (ents E)[i * 2]? = some (.int .i64 a) ∧ (ents E)[i * 2 + 1]? = some (.int .i64 b)
  | [], i, a, b, h => by simp at h
  | e :: E, 0, a, b, h => by simp at h; subst h; exact ⟨rfl, rfl⟩
  | e :: E, i + 1, a, b, h => by
    simp only [List.getElem?_cons_succ] at h
    have := ents_at E i a b h
    rw [show (i + 1) * 2 = i * 2 + 1 + 1 by omega]
    exact this

theorem ents_app : ∀ (E F : List (Int × Int)), ents (E ++ F) = ents E ++ ents F
  | [], F => rfl
  | e :: E, F => by simp only [List.cons_append, ents, ents_app E F]

theorem ents_take : ∀ (E : List (Int × Int)) (k : Nat), (ents E).take (k * 2) = ents (E.take k)
  | [], k => by simp [ents]
  | e :: E, 0 => by simp [ents]
  | e :: E, k + 1 => by
    rw [show (k + 1) * 2 = k * 2 + 1 + 1 by omega]
    simp only [ents, List.take_succ_cons, ents_take E k]

theorem ents_drop : ∀ (E : List (Int × Int)) (k : Nat), (ents E).drop (k * 2) = ents (E.drop k)
  | [], k => by simp [ents]
  | e :: E, 0 => by simp [ents]
  | e :: E, k + 1 => by
    rw [show (k + 1) * 2 = k * 2 + 1 + 1 by omega]
    simp only [ents, List.drop_succ_cons, ents_drop E k]

theorem ents_one : ∀ (E : List (Int × Int)), ∀ u ∈ ents E, u.oneCell' = true
  | [], u, h => by simp [ents] at h
  | e :: E, u, h => by
    simp only [ents, List.mem_cons] at h
    rcases h with rfl | rfl | h
    · rfl
    · rfl
    · exact ents_one E u h

/-- The document's queue at block q. -/
structure Rq (w : World) (q : Nat) (v : Value) (E : List (Int × Int)) (c : Int) : Prop where
  blk : w.heap[q]? = some (.cells #[v, .int .i64 c] 46 (0, 0))
  own : Sl w 64 2 v E.length (ents E)

def rf (q : Nat) (v : Value) (k : Nat) : Prop := k = q ∨ v.ownBlock = some k

def RPost (q : Nat) (v : Value) (E : List (Int × Int)) (c : Int) (w w' : World) : Prop :=
  ∃ v', Rq w' q v' E c ∧ Fr (rf q v) w w' ∧ (∀ k, rf q v' k → rf q v k ∨ w.heap.size ≤ k)

theorem Rq.lt {w : World} {q : Nat} {v : Value} {E : List (Int × Int)} {c : Int} (h : Rq w q v E c) : ∀ k, rf q v k → k < w.heap.size := by
  rintro k (rfl | hk)
  · exact blk_lt h.blk
  · exact h.own.lt k hk
theorem Rq.keep {w w' : World} {q : Nat} {v : Value} {E : List (Int × Int)} {c : Int} (h : Rq w q v E c) {F : Nat → Prop} (hf : Fr F w w') (hF : ∀ k, rf q v k → ¬ F k) : Rq w' q v E c :=
  ⟨hf.at h.blk (hF q (.inl rfl)), hf.sl h.own (fun k hk => hF k (.inr hk))⟩
theorem Rq.same {w w' : World} {q : Nat} {v : Value} {E : List (Int × Int)} {c : Int} (h : Rq w q v E c) (hb : Below w.heap.size w w') : RPost q v E c w w' :=
  ⟨v, h.keep (bel_fr0 hb) (fun _ _ h => h), (bel_fr0 hb).mono (fun _ h => h.elim), fun _ h => .inl h⟩
theorem RPost.trans {q : Nat} {v v1 : Value} {E : List (Int × Int)} {c : Int} {w w1 w' : World} (hf : Fr (rf q v) w w1) (hg : ∀ k, rf q v1 k → rf q v k ∨ w.heap.size ≤ k) (h : RPost q v1 E c w1 w') : RPost q v E c w w' := by
  obtain ⟨v', hb, hf', hg'⟩ := h
  refine ⟨v', hb, hf.trans' hf' hg, fun k hk => ?_⟩
  rcases hg' k hk with h | h
  · exact hg k h
  · exact .inr (Nat.le_trans hf.size h)

theorem RAt_any (q : Nat) (v : Value) (E : List (Int × Int)) (c pid : Int) (w : World) (hq : Rq w q v E c) :
    Calls Try.prog 20 #[.pointer (some ⟨q, 0, none⟩), .int .i64 pid] w fun e w' => e = .returned (.int .i64 (place (fun e => e.1 == pid) E)) ∧ w' = w := by
  obtain ⟨ao, cap, rfl, hcap, hmax⟩ := hq.own.shape
  have c0 := blk_cell hq.blk 0
  simp at c0
  unfold maxLen at hmax
  go_enter Try.func20, Try.ntmps20
  go_wp2_with fail
  go_loopg [5] E.length (fun g s5 wr => ∃ k : Nat, k + g = E.length ∧ s5 = .int .i64 k ∧ wr = w ∧ Hid (∀ e ∈ E.take k, (fun e : Int × Int => e.1 == pid) e = false))
  case atStart => exact ⟨0, by omega, rfl, rfl, Lib.hid (by simp)⟩
  case round =>
    obtain ⟨k, hk, rfl, rfl, hno⟩ := hrel
    cases gk with
    | zero =>
      obtain rfl : k = E.length := by omega
      go_wp2_with fail
      go_ret
      have hn := hno.out
      rw [List.take_of_length_le (Nat.le_refl _)] at hn
      exact ⟨by rw [place_none hn]; rfl, rfl⟩
    | succ g =>
      obtain ⟨⟨x, p⟩, hx⟩ : ∃ x, E[k]? = some x := ⟨E[k]'(by omega), List.getElem?_eq_getElem _⟩
      obtain ⟨b, off, cap', hv', _, _, hcell⟩ := hq.own.rd.at (by omega)
      simp at hv'
      obtain ⟨rfl, rfl⟩ := hv'
      have hck := hcell (k * 2) (by omega)
      rw [(ents_at E k x p hx).1] at hck
      clear hcell
      have HX := Lib.hid hx
      clear hx
      by_cases hxp : x = pid
      · subst hxp
        go_wp2_with fail
        go_ret
        exact ⟨by rw [place_some HX.out (by simp) hno.out]; rfl, rfl⟩
      · go_wp2_with fail
        go_roundg g
        case measure => omega
        case rel =>
          refine ⟨k + 1, by omega, by go_num, rfl, Lib.hid ?_⟩
          rw [List.take_add_one, HX.out]
          intro e he
          simp at he
          rcases he with he | rfl
          · exact hno.out e he
          · simpa using hxp

theorem RFirst_any (q : Nat) (v : Value) (E : List (Int × Int)) (c pid : Int) (w : World) (hq : Rq w q v E c) :
    Calls Try.prog 36 #[.pointer (some ⟨q, 0, none⟩), .int .i64 pid] w fun e w' => e = .returned (.int .i64 (place (fun e => e.2 == pid) E)) ∧ w' = w := by
  obtain ⟨ao, cap, rfl, hcap, hmax⟩ := hq.own.shape
  have c0 := blk_cell hq.blk 0
  simp at c0
  unfold maxLen at hmax
  go_enter Try.func36, Try.ntmps36
  go_wp2_with fail
  go_loopg [5] E.length (fun g s5 wr => ∃ k : Nat, k + g = E.length ∧ s5 = .int .i64 k ∧ wr = w ∧ Hid (∀ e ∈ E.take k, (fun e : Int × Int => e.2 == pid) e = false))
  case atStart => exact ⟨0, by omega, rfl, rfl, Lib.hid (by simp)⟩
  case round =>
    obtain ⟨k, hk, rfl, rfl, hno⟩ := hrel
    cases gk with
    | zero =>
      obtain rfl : k = E.length := by omega
      go_wp2_with fail
      go_ret
      have hn := hno.out
      rw [List.take_of_length_le (Nat.le_refl _)] at hn
      exact ⟨by rw [place_none hn]; rfl, rfl⟩
    | succ g =>
      obtain ⟨⟨x, p⟩, hx⟩ : ∃ x, E[k]? = some x := ⟨E[k]'(by omega), List.getElem?_eq_getElem _⟩
      obtain ⟨b, off, cap', hv', _, _, hcell⟩ := hq.own.rd.at (by omega)
      simp at hv'
      obtain ⟨rfl, rfl⟩ := hv'
      have hck := hcell (k * 2 + 1) (by omega)
      rw [(ents_at E k x p hx).2, ← Nat.add_assoc] at hck
      clear hcell
      have HX := Lib.hid hx
      clear hx
      by_cases hxp : p = pid
      · subst hxp
        go_wp2_with fail
        go_ret
        exact ⟨by rw [place_some HX.out (by simp) hno.out]; rfl, rfl⟩
      · go_wp2_with fail
        go_roundg g
        case measure => omega
        case rel =>
          refine ⟨k + 1, by omega, by go_num, rfl, Lib.hid ?_⟩
          rw [List.take_add_one, HX.out]
          intro e he
          simp at he
          rcases he with he | rfl
          · exact hno.out e he
          · simpa using hxp

theorem RTurn_any (q : Nat) (v : Value) (E : List (Int × Int)) (c : Int) (w : World) (hq : Rq w q v E c) :
    Calls Try.prog 35 #[.pointer (some ⟨q, 0, none⟩)] w fun e w' => e = .returned (.int .i64 (rturn E c)) ∧ w' = w := by
  have c1 := blk_cell hq.blk 1
  simp at c1
  unfold rturn
  obtain ⟨p4, h4⟩ : ∃ p, place (fun e => e.2 == 4) E = p := ⟨_, rfl⟩
  obtain ⟨p3, h3⟩ : ∃ p, place (fun e => e.2 == 3) E = p := ⟨_, rfl⟩
  obtain ⟨p2, h2⟩ : ∃ p, place (fun e => e.2 == 2) E = p := ⟨_, rfl⟩
  obtain ⟨p1, h1⟩ : ∃ p, place (fun e => e.2 == 1) E = p := ⟨_, rfl⟩
  rw [h1, h2, h3, h4]
  obtain ⟨r, hr⟩ : ∃ r, (if 0 ≤ p4 then p4 else if 0 ≤ p3 then p3 else if p2 < 0 ∨ 0 ≤ p1 ∧ 8 ≤ c then p1 else p2) = r := ⟨_, rfl⟩
  rw [hr]
  have HR := Lib.hid hr
  have f := RFirst_any q v E c
  have H4 := Lib.hid h4
  have H3 := Lib.hid h3
  have H2 := Lib.hid h2
  have H1 := Lib.hid h1
  clear h1 h2 h3 h4 hr
  go_enter Try.func35, Try.ntmps35
  go_wp2_with fail
  go_loopg [3] 2 (fun g s3 wr => s3 = .int .i64 ((g : Int) + 2) ∧ wr = w ∧ g ≤ 2 ∧ (g ≤ 1 → p4 < 0) ∧ (g ≤ 0 → p3 < 0))
  case atStart => exact ⟨rfl, rfl, by omega, by omega, by omega⟩
  case round =>
    obtain ⟨rfl, rfl, hg, g1, g0⟩ := hrel
    match gk, hg, g1, g0 with
    | 0, _, g1, g0 =>
      have n4 := g1 (by omega)
      have n3 := g0 (by omega)
      clear g1 g0
      go_wp2_with fail
      refine (f 2 _ hq).mono ?_
      rintro e w1 ⟨rfl, rfl⟩
      rw [H2.out]
      go_wp2_with fail
      refine (f 1 _ hq).mono ?_
      rintro e w2 ⟨rfl, rfl⟩
      rw [H1.out]
      by_cases e2 : p2 < 0
      · go_wp2_with fail
        go_ret
        exact ⟨by rw [← HR.out, if_neg (by omega), if_neg (by omega), if_pos (.inl e2)]; rfl, rfl⟩
      · by_cases e1 : 0 ≤ p1
        · by_cases e8 : 8 ≤ c
          · go_wp2_with fail
            go_ret
            exact ⟨by rw [← HR.out, if_neg (by omega), if_neg (by omega), if_pos (.inr ⟨e1, e8⟩)]; rfl, rfl⟩
          · go_wp2_with fail
            go_ret
            exact ⟨by rw [← HR.out, if_neg (by omega), if_neg (by omega), if_neg (by omega)]; rfl, rfl⟩
        · go_wp2_with fail
          go_ret
          exact ⟨by rw [← HR.out, if_neg (by omega), if_neg (by omega), if_neg (by omega)]; rfl, rfl⟩
    | 1, _, g1, _ =>
      have n4 := g1 (by omega)
      clear g1
      go_wp2_with fail
      refine (f 3 _ hq).mono ?_
      rintro e w1 ⟨rfl, rfl⟩
      rw [H3.out]
      by_cases e3 : 0 ≤ p3
      · go_wp2_with fail
        go_ret
        exact ⟨by rw [← HR.out, if_neg (by omega), if_pos e3]; rfl, rfl⟩
      · go_wp2_with fail
        go_roundg 0
        case measure => omega
        case rel => exact ⟨rfl, rfl, by omega, fun _ => n4, fun _ => by omega⟩
    | 2, _, _, _ =>
      go_wp2_with fail
      refine (f 4 _ hq).mono ?_
      rintro e w1 ⟨rfl, rfl⟩
      rw [H4.out]
      by_cases e4 : 0 ≤ p4
      · go_wp2_with fail
        go_ret
        exact ⟨by rw [← HR.out, if_pos e4]; rfl, rfl⟩
      · go_wp2_with fail
        go_roundg 1
        case measure => omega
        case rel => exact ⟨rfl, rfl, by omega, fun _ => by omega, fun h => by omega⟩
end Go.Proofs.Ytjdinopiipmojaa
