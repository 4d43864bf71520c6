/- The queue's All: a copy of the queue, asked till it is empty. -/
import Derived.Test.YtjdinopiipmojaaCopy
import Derived.Test.YtjdinopiipmojaaStarves
namespace Go.Proofs.Ytjdinopiipmojaa
open Go.RowKit

/-- What Next tells, one after another. -/
def qrun : Nat → (Int → List Int) → Int → List Int
  | 0, _, _ => []
  | n + 1, L, c =>
    match L (qturn L c) with
    | [] => []
    | x :: r => if qturn L c = 0 then [] else x :: qrun n (setL L (qturn L c) r) (qcount (qturn L c) c)

theorem sum_zero {L : Int → List Int} {c : Int} (h : sumL L 4 = 0) : qturn L c = 0 := by
  simp [sumL] at h
  obtain ⟨⟨⟨h1, h2⟩, h3⟩, h4⟩ := h
  simp [qturn, h1, h2, h3, h4]

theorem qrun_step {n : Nat} {L : Int → List Int} {c k x : Int} {r : List Int} (hk : qturn L c = k) (k1 : 1 ≤ k) (hx : L k = x :: r) : qrun (n + 1) L c = x :: qrun n (setL L k r) (qcount k c) := by
  rw [qrun, hk, hx]
  simp only
  rw [if_neg (by omega)]

theorem qrun_length : ∀ (n : Nat) (L : Int → List Int) (c : Int), sumL L 4 = n → (qrun n L c).length = n
  | 0, L, c, _ => rfl
  | n + 1, L, c, h => by
    have hr := qturn_range L c
    have hk : qturn L c ≠ 0 := fun e => by
      have h0 : ∀ j, 1 ≤ j → j ≤ 4 → L j = [] := by
        unfold qturn at e
        split at e
        · omega
        rename_i h4
        split at e
        · omega
        rename_i h3
        split at e
        · omega
        rename_i h2
        split at e
        · omega
        rename_i h1
        have e1 : L 1 = [] := by simpa using h1
        have e4 : L 4 = [] := by simpa using h4
        have e3 : L 3 = [] := by simpa using h3
        have e2 : L 2 = [] := by
          rcases Classical.em (L 2 = []) with h | h
          · exact h
          · exact absurd ⟨h, .inl e1⟩ h2
        intro j j1 j4
        have : j = 1 ∨ j = 2 ∨ j = 3 ∨ j = 4 := by omega
        rcases this with rfl | rfl | rfl | rfl <;> assumption
      simp [sumL, h0 1, h0 2, h0 3, h0 4] at h
    obtain ⟨x, r, hx⟩ := turn_head (k := qturn L c) rfl (by omega)
    rw [qrun_step rfl (by omega) hx]
    have hs : sumL (setL L (qturn L c) r) 4 + (L (qturn L c)).length = sumL L 4 + r.length := by
      have : qturn L c = 1 ∨ qturn L c = 2 ∨ qturn L c = 3 ∨ qturn L c = 4 := by omega
      rcases this with e | e | e | e <;> rw [e] <;> simp [sumL, setL] <;> omega
    rw [hx] at hs
    simp only [List.length_cons] at hs
    rw [List.length_cons, qrun_length n _ _ (by omega)]

/-- The closure that asks the copy. -/
theorem ask_none (g p bm : Nat) (vs : Int → Value) (c : Int) (L : Int → List Int) (w : World) (hg : w.cell? ⟨g, 0, none⟩ = some (.pointer (some ⟨p, 0, none⟩))) (hq : Qb w p bm vs c L) (h0 : qturn L c = 0) :
    Calls Try.prog 32 #[.pointer (some ⟨g, 0, none⟩)] w fun e w' => e = .returned (.tuple #[.int .i64 0, .bool false]) ∧ QPost p bm vs c L w w' := by
  go_enter Try.func32, Try.ntmps32
  go_wp2_with fail
  refine (Next_none _ _ _ _ _ _ hq h0).mono ?_
  rintro e w1 ⟨rfl, hp⟩
  go_wp2_with fail
  go_ret2
  exact ⟨rfl, hp⟩

theorem ask_some (g p bm : Nat) (vs : Int → Value) (c : Int) (L : Int → List Int) (w : World) (hg : w.cell? ⟨g, 0, none⟩ = some (.pointer (some ⟨p, 0, none⟩))) (hq : Qb w p bm vs c L) (k : Int) (hk : qturn L c = k) (k1 : 1 ≤ k) (x : Int) (r : List Int) (hx : L k = x :: r) (hc0 : 0 ≤ c) (hc8 : c ≤ 8) :
    Calls Try.prog 32 #[.pointer (some ⟨g, 0, none⟩)] w fun e w' => e = .returned (.tuple #[.int .i64 x, .bool true]) ∧ QPost p bm vs (qcount k c) (setL L k r) w w' := by
  have HK := Lib.hid hk
  have HX := Lib.hid hx
  clear hk hx
  go_enter Try.func32, Try.ntmps32
  go_wp2_with fail
  refine (Next_some _ _ _ _ _ _ hq k HK.out k1 x r HX.out hc0 hc8).mono ?_
  rintro e w1 ⟨rfl, hp⟩
  go_wp2_with fail
  go_ret2
  exact ⟨rfl, hp⟩

theorem ask_nil (g : Nat) (w : World) (hg : w.cell? ⟨g, 0, none⟩ = some (.pointer none)) :
    Calls Try.prog 32 #[.pointer (some ⟨g, 0, none⟩)] w fun e w' => e = .returned (.tuple #[.int .i64 0, .bool false]) ∧ w' = w := by
  have hn : Calls Try.prog 10 #[.pointer none] w fun e w' => e = .returned (.tuple #[.int .i64 0, .int .i64 2]) ∧ w' = w := by
    go_enter Try.func10, Try.ntmps10
    go_wp2
    go_ret2
    exact ⟨rfl, rfl⟩
  go_enter Try.func32, Try.ntmps32
  go_wp2_with fail
  refine hn.mono ?_
  rintro e w1 ⟨rfl, rfl⟩
  go_wp2_with fail
  go_ret2
  exact ⟨rfl, rfl⟩
theorem QIn.step3 {B : Nat} {w0 w w' : World} {p bm : Nat} {vs : Int → Value} {c c' : Int} {L L' : Int → List Int} (h : QIn B w0 w p bm vs c L) (hp : QPost p bm vs c' L' w w') :
    ∃ vs', QIn B w0 w' p bm vs' c' L' ∧ w.heap.size ≤ w'.heap.size ∧ ∀ g, g < w.heap.size → ¬ bf p bm vs g → w'.heap[g]? = w.heap[g]? ∧ ¬ bf p bm vs' g := by
  obtain ⟨vs', hb, hf, hg⟩ := hp
  have hs := h.size
  refine ⟨vs', ⟨hb, fun k hk => by rcases hg k hk with x | x; exact h.lies k x; omega, h.below.trans (hf.below h.size h.lies), Nat.le_trans h.size hf.size⟩, hf.size, fun g hgl hn => ⟨hf.block g hgl hn, fun hb' => ?_⟩⟩
  rcases hg g hb' with x | x
  · exact hn x
  · omega

/-- What the gathering loop of All holds: the block g of the copy's pointer, the block Bl of the list, apart from the copy. -/
structure Ga (B : Nat) (w0 w : World) (g Bl : Nat) (vs : Int → Value) (c : Int) (L : Int → List Int) (v : Value) (pre : List Int) : Prop where
  q : QIn B w0 w (B + 1) B vs c L
  gb : w.heap[g]? = some (.cells #[.pointer (some ⟨B + 1, 0, none⟩)] 23 (0, 0))
  lb : w.heap[Bl]? = some (.cells #[v] 39 (0, 0))
  sl : Sl w 2 1 v pre.length (i64s pre)
  ng : ¬ bf (B + 1) B vs g
  nl : ¬ bf (B + 1) B vs Bl
  nv : ∀ k, v.ownBlock = some k → ¬ bf (B + 1) B vs k ∧ B ≤ k
  ne : g ≠ Bl
  hl : B ≤ Bl
  hg : B ≤ g
  c0 : 0 ≤ c
  c8 : c ≤ 8

theorem Ga.step {B : Nat} {w0 w w' : World} {g Bl : Nat} {vs : Int → Value} {c c' : Int} {L L' : Int → List Int} {v : Value} {pre : List Int} (h : Ga B w0 w g Bl vs c L v pre) (hp : QPost (B + 1) B vs c' L' w w') (c0 : 0 ≤ c') (c8 : c' ≤ 8) :
    ∃ vs', Ga B w0 w' g Bl vs' c' L' v pre := by
  obtain ⟨vs', hq, _, hk⟩ := h.q.step3 hp
  have k1 := hk g (blk_lt h.gb) h.ng
  have k2 := hk Bl (blk_lt h.lb) h.nl
  exact ⟨vs', hq, k1.1.trans h.gb, k2.1.trans h.lb, h.sl.keep fun k hk' => (hk k (h.sl.lt k hk') (h.nv k hk').1).1, k1.2, k2.2, fun k hk' => ⟨(hk k (h.sl.lt k hk') (h.nv k hk').1).2, (h.nv k hk').2⟩, h.ne, h.hl, h.hg, c0, c8⟩

theorem sum_of_turn {L : Int → List Int} {c : Int} (h : qturn L c = 0) : sumL L 4 = 0 := by
  unfold qturn at h
  split at h
  · omega
  rename_i h4
  split at h
  · omega
  rename_i h3
  split at h
  · omega
  rename_i h2
  split at h
  · omega
  rename_i h1
  have e1 : L 1 = [] := by simpa using h1
  have e4 : L 4 = [] := by simpa using h4
  have e3 : L 3 = [] := by simpa using h3
  have e2 : L 2 = [] := by
    rcases Classical.em (L 2 = []) with h | h
    · exact h
    · exact absurd ⟨h, .inl e1⟩ h2
  simp [sumL, e1, e2, e3, e4]

/-- What is yet to come: of which x is the first, if there is one. -/
def Come (b : Bool) (x : Int) (L : Int → List Int) (c : Int) (rest : List Int) : Prop := (b = false ∧ rest = []) ∨ (b = true ∧ rest = x :: qrun (sumL L 4) L c)

theorem ask_any {B : Nat} {w0 w : World} {g Bl : Nat} {vs : Int → Value} {c : Int} {L : Int → List Int} {v : Value} {pre : List Int} (h : Ga B w0 w g Bl vs c L v pre) :
    Calls Try.prog 32 #[.pointer (some ⟨g, 0, none⟩)] w fun e w' => ∃ x b, e = .returned (.tuple #[.int .i64 x, .bool b]) ∧ ∃ vs' c' L', Ga B w0 w' g Bl vs' c' L' v pre ∧ Come b x L' c' (qrun (sumL L 4) L c) ∧
      sumL L' 4 + (if b then 1 else 0) ≤ sumL L 4 := by
  have cg := blk_cell h.gb 0
  simp at cg
  by_cases h0 : qturn L c = 0
  · refine (ask_none g _ _ _ _ _ _ cg h.q.q h0).mono ?_
    rintro e w1 ⟨rfl, hp⟩
    obtain ⟨vs', h'⟩ := h.step hp h.c0 h.c8
    exact ⟨_, _, rfl, _, _, _, h', .inl ⟨rfl, by rw [sum_of_turn h0]; rfl⟩, by simp⟩
  · have hr := qturn_range L c
    obtain ⟨x, r, hx⟩ := turn_head (k := qturn L c) rfl (by omega)
    have hs : sumL (setL L (qturn L c) r) 4 + (L (qturn L c)).length = sumL L 4 + r.length := by
      have : qturn L c = 1 ∨ qturn L c = 2 ∨ qturn L c = 3 ∨ qturn L c = 4 := by omega
      rcases this with e | e | e | e <;> rw [e] <;> simp [sumL, setL] <;> omega
    have hs2 : sumL L 4 = sumL (setL L (qturn L c) r) 4 + 1 := by
      rw [hx] at hs
      simp only [List.length_cons] at hs
      omega
    refine (ask_some g _ _ _ _ _ _ cg h.q.q _ rfl (by omega) x r hx h.c0 h.c8).mono ?_
    rintro e w1 ⟨rfl, hp⟩
    have hc := qcount_range (k := qturn L c) h.c0 h.c8
    obtain ⟨vs', h'⟩ := h.step hp hc.1 hc.2
    exact ⟨_, _, rfl, _, _, _, h', .inr ⟨rfl, by rw [hs2, qrun_step rfl (by omega) hx]⟩, by simp; omega⟩

set_option maxHeartbeats 1600000 in
theorem All_any (p bm : Nat) (vs : Int → Value) (c : Int) (L : Int → List Int) (w : World) (hq : Qb w p bm vs c L) (hlen : sumL L 4 ≤ 1000) (hc0 : 0 ≤ c) (hc8 : c ≤ 8) (full : List Int) (hfull : qrun (sumL L 4) L c = full) :
    Calls Try.prog 24 #[.pointer (some ⟨p, 0, none⟩)] w fun e w' => ∃ Bl v, e = .returned (.func (.func 33) #[] #[.pointer (some ⟨Bl, 0, none⟩)]) ∧ w'.heap[Bl]? = some (.cells #[v] 39 (0, 0)) ∧ w.heap.size ≤ Bl ∧
      Sl w' 2 1 v full.length (i64s full) ∧ (∀ k, v.ownBlock = some k → w.heap.size ≤ k) ∧ Below w.heap.size w w' := by
  obtain ⟨B, hB⟩ : ∃ B, w.heap.size = B := ⟨_, rfl⟩
  obtain ⟨i0, hinf, hz0, hz1, hz2⟩ := info_parts Try.info2
  go_enter Try.func24, Try.ntmps24
  go_wp2_with fail
  refine (Copy_any _ _ _ _ _ _ hq hlen).mono ?_
  rintro e w1 ⟨rfl, vs1, hq1⟩
  rw [hB] at hq1 ⊢
  have HB := Lib.hid hB
  clear hB
  obtain ⟨g, hg⟩ : ∃ g, w1.heap.size = g := ⟨_, rfl⟩
  have hGa : Ga B w ((w1.alloc (.cells #[.pointer (some ⟨B + 1, 0, none⟩)] 23)).alloc (.cells #[.slice none 0 0] 39)) g (g + 1) vs1 c L (.slice none 0 0) [] := by
    have hge := hq1.size
    have hlt := heap_alloc_new (w1.alloc (.cells #[.pointer (some ⟨B + 1, 0, none⟩)] 23)) (.cells #[.slice none 0 0] 39)
    rw [World.size_alloc, hg] at hlt
    exact ⟨hq1.keep (((Fr.refl (fun _ => False) _).alloc _).alloc _) (fun _ _ h => h) (fun _ h => h.elim), blk_alloc (by rw [← hg]; exact heap_alloc_new w1 _), hlt, Sl.nil _ _ _,
      fun hb => by have := hq1.q.lt _ hb; omega, fun hb => by have := hq1.q.lt _ hb; omega, by simp [Value.ownBlock], by omega, by omega, by omega, hc0, hc8⟩
  have hfl : full.length ≤ 1000 := by rw [← hfull, qrun_length _ _ _ rfl]; exact hlen
  go_wp2_with fail
  refine (ask_any hGa).mono ?_
  rintro e w2 ⟨x, b, rfl, vs2, c2, L2, hGa2, hcome, hm⟩
  rw [hfull] at hcome
  have HC := Lib.hid hcome
  clear hGa hq1 hcome hfull
  go_wp2_with fail
  go_loopg [6, 7] (sumL L 4) (fun gk s6 s7 wr => ∃ x b vs' c' L' v pre rest, s6 = .int .i64 x ∧ s7 = .bool b ∧ Ga B w wr g (g + 1) vs' c' L' v pre ∧ Come b x L' c' rest ∧ full = pre ++ rest ∧ sumL L' 4 + (if b then 1 else 0) ≤ gk)
  case atStart => exact ⟨x, b, vs2, c2, L2, _, [], full, rfl, rfl, hGa2, HC.out, rfl, hm⟩
  case round =>
    clear hGa2 HC hm
    obtain ⟨x, b, vs', c', L', v, pre, rest, rfl, rfl, h, hcome, hfull, hm⟩ := hrel
    cases b with
    | false =>
      rcases hcome with ⟨_, rfl⟩ | ⟨e, _⟩
      · rw [List.append_nil] at hfull
        subst hfull
        go_wp2_with fail
        go_ret
        refine ⟨g + 1, rfl, v, h.lb, ?_, h.sl, fun k hk => ?_, ?_⟩
        · rw [HB.out]; exact h.hl
        · rw [HB.out]; exact (h.nv k hk).2
        · rw [HB.out]; exact h.q.below
      · cases e
    | true =>
      rcases hcome with ⟨e, _⟩ | ⟨_, rfl⟩
      · cases e
      have hpl : pre.length ≤ 1000 := by have := congrArg List.length hfull; simp at this; omega
      obtain ⟨ao, cap, rfl, hcap, hmax⟩ := h.sl.shape
      have cl := blk_cell h.lb 0
      simp at cl
      have HF := Lib.hid hfull
      clear hfull
      go_wp2_with (at_builtin; refine wpList_append_sl rfl (.tmp 22) (.tmp 24) 39 rfl 2 i0 (.int .i64 0) 1 8 Try.underlying39 hinf hz0 hz1 hz2 rfl (by decide) _ pre.length (i64s pre) rfl (h.sl.alloc _) ⟨wr.heap.size, 0, none⟩ 1 1 [.int .i64 x] rfl rfl (cell_one_new _ _ _) ?c2 ?b1 ?b2 ?next)
      case c2 => rfl
      case b1 => unfold maxLen; omega
      case b2 => omega
      case next =>
        intro v' w3 hs3 hf3 hv3
        obtain ⟨ao', cap', rfl, _, _⟩ := hs3.shape
        have hF : Fr (fun q => (Value.slice ao pre.length cap).ownBlock = some q) wr w3 := ((Fr.refl _ wr).alloc (.cells #[.int .i64 x] 2)).trans hf3
        have hnv := h.nv
        have hvl : ∀ q, (Value.slice ao pre.length cap).ownBlock = some q → q ≠ g ∧ q ≠ g + 1 := fun q hq => ⟨fun e => h.sl.ne h.gb (by decide) q hq e, fun e => h.sl.ne h.lb (by decide) q hq e⟩
        have hl3 := hF.at h.lb (fun e => (hvl _ e).2 rfl)
        have c3 := blk_cell hl3 0
        have f3 := blk_free hl3 0
        simp at c3
        have hv3' : ∀ q, (Value.slice ao' (pre.length + 1) cap').ownBlock = some q → (Value.slice ao pre.length cap).ownBlock = some q ∨ wr.heap.size ≤ q := fun q hq => by
          rcases hv3 with e | e
          · exact .inl (e ▸ hq)
          · rw [e] at hq; simp at hq; exact .inr (by omega)
        have hG3 : Ga B w (w3.setCell ⟨g + 1, 0, none⟩ (.slice ao' (pre.length + 1) cap')) g (g + 1) vs' c' L' (.slice ao' (pre.length + 1) cap') (pre ++ [x]) := by
          have hf4 : Fr (fun q => q = g + 1 ∨ (Value.slice ao pre.length cap).ownBlock = some q) wr (w3.setCell ⟨g + 1, 0, none⟩ (.slice ao' (pre.length + 1) cap')) := (hF.mono (G := fun q => q = g + 1 ∨ (Value.slice ao pre.length cap).ownBlock = some q) fun q hq => Or.inr hq).setCell (p := ⟨g + 1, 0, none⟩) (.inl (.inl rfl)) _
          refine ⟨h.q.keep hf4 (fun k hk e => ?_) (fun k e => ?_), hf4.at h.gb (fun e => ?_), by rw [blk_set hl3]; rfl, ?_, h.ng, h.nl, fun q hq => ?_, h.ne, h.hl, h.hg, h.c0, h.c8⟩
          · rcases e with rfl | e
            · exact h.nl hk
            · exact (hnv k e).1 hk
          · rcases e with rfl | e
            · exact h.hl
            · exact (hnv k e).2
          · rcases e with e | e
            · exact h.ne e
            · exact (hvl _ e).1 rfl
          · have := hs3.set_other (a := ⟨g + 1, 0, none⟩) (.slice ao' (pre.length + 1) cap') (hs3.ne hl3 (by decide))
            simpa [i64s] using this
          · rcases hv3' q hq with e | e
            · exact hnv q e
            · exact ⟨fun hb => by have := h.q.q.lt q hb; omega, by have := h.q.size; omega⟩
        clear h hs3 hf3 hv3 hF hnv hvl hl3 hv3' cl
        go_wp2_with fail
        refine (ask_any hG3).mono ?_
        rintro e w4 ⟨x4, b4, rfl, vs4, c4, L4, hGa4, hcome4, hm4⟩
        have HC4 := Lib.hid hcome4
        clear hG3 hcome4
        go_wp2_with fail
        go_roundg (sumL L' 4)
        case measure => simp at hm; omega
        case rel => exact ⟨x4, b4, vs4, c4, L4, _, pre ++ [x], _, rfl, rfl, hGa4, HC4.out, by rw [HF.out]; simp, hm4⟩

theorem All_nil (w : World) :
    Calls Try.prog 24 #[.pointer none] w fun e w' => ∃ Bl v, e = .returned (.func (.func 33) #[] #[.pointer (some ⟨Bl, 0, none⟩)]) ∧ w'.heap[Bl]? = some (.cells #[v] 39 (0, 0)) ∧ w.heap.size ≤ Bl ∧
      Sl w' 2 1 v 0 [] ∧ (∀ k, v.ownBlock = some k → w.heap.size ≤ k) ∧ Below w.heap.size w w' := by
  obtain ⟨B, hB⟩ : ∃ B, w.heap.size = B := ⟨_, rfl⟩
  have hbel : Below w.heap.size w ((w.alloc (.cells #[.pointer none] 23)).alloc (.cells #[.slice none 0 0] 39)) := ((Below.refl _ _).alloc (Nat.le_refl _) _).alloc (by simp) _
  have hlt := heap_alloc_new (w.alloc (.cells #[.pointer none] 23)) (.cells #[.slice none 0 0] 39)
  rw [World.size_alloc] at hlt
  have hgb : ((w.alloc (.cells #[.pointer none] 23)).alloc (.cells #[.slice none 0 0] 39)).heap[w.heap.size]? = some (.cells #[.pointer none] 23 (0, 0)) := blk_alloc (heap_alloc_new w _)
  have cg : ((w.alloc (.cells #[.pointer none] 23)).alloc (.cells #[.slice none 0 0] 39)).cell? ⟨w.heap.size, 0, none⟩ = some (.pointer none) := (blk_cell hgb 0).trans rfl
  have HL := Lib.hid hlt
  have HBL := Lib.hid hbel
  clear hgb hlt hbel
  rw [hB] at cg HL HBL ⊢
  go_enter Try.func24, Try.ntmps24
  go_wp2_with fail
  refine (Copy_nil _).mono ?_
  rintro e w1 ⟨rfl, rfl⟩
  go_wp2_with fail
  refine (ask_nil B _ cg).mono ?_
  rintro e w2 ⟨rfl, rfl⟩
  go_wp2_with fail
  go_loopg [7] 1 (fun _ s7 wr => s7 = .bool false ∧ wr = (w1.alloc (.cells #[.pointer none] 23)).alloc (.cells #[.slice none 0 0] 39))
  case atStart => exact ⟨rfl, rfl⟩
  case round =>
    obtain ⟨rfl, rfl⟩ := hrel
    go_wp2_with fail
    go_ret
    refine ⟨B + 1, .slice none 0 0, rfl, HL.out, by omega, Sl.nil _ _ _, by simp [Value.ownBlock], HBL.out⟩
end Go.Proofs.Ytjdinopiipmojaa
