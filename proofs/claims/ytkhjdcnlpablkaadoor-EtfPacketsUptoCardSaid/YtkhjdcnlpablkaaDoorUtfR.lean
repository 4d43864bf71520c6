/- What can be an atom, both sides; texts rune by rune (the document's). -/
import Derived.Test.YtkhjdcnlpablkaaDoorUtf
import Derived.Test.YtkhjdcnlpablkaaDoorIter
import Derived.Test.YtkhjdcnlpablkaaDoorShelf
import Derived.Lib.OthersKept
namespace Go.Proofs.YtkhjdcnlpablkaaDoor
open Go.RowKit Go.Shelf
open Go.Lib (decodeL validD)

theorem drop_at {s : ByteArray} {m : Nat} (h : m < s.size) : s.data.toList.drop m = s[m] :: s.data.toList.drop (m + 1) := by
  have : m < s.data.toList.length := by simpa using h
  rw [List.drop_eq_getElem_cons this]
  rfl

theorem drop_end {s : ByteArray} {m : Nat} (h : s.size ≤ m) : s.data.toList.drop m = [] := by
  have : s.data.toList.length ≤ m := by simpa using h
  exact List.drop_eq_nil_of_le this

theorem nil_iff (s : ByteArray) : s.data.toList = [] ↔ s.size = 0 := by
  rw [← List.length_eq_zero_iff]; simp

theorem bld_lt {w : World} {b : Nat} {o : Obj} (h : w.heap[b]? = some o) : b < w.heap.size := by
  rcases Nat.lt_or_ge b w.heap.size with h' | h'
  · exact h'
  · simp [Array.getElem?_eq_none h'] at h

theorem tabs_below {B : Nat} {w w' : World} (h : Lib.Utf8Tabs 0 1 w) (hB : w.heap.size ≤ B) (hb : Below B w w') : Lib.Utf8Tabs 0 1 w' := by
  refine ⟨fun c hc => ?_, fun i hi => ⟨?_, ?_⟩⟩
  · have := h.1 c hc
    rw [hb.cell (by have := World.block_lt_of_cell? w _ this; omega)]
    exact this
  · have := (h.2 i hi).1
    rw [hb.cell (by have := World.block_lt_of_cell? w _ this; omega)]
    exact this
  · have := (h.2 i hi).2
    rw [hb.cell (by have := World.block_lt_of_cell? w _ this; omega)]
    exact this

/-- Can it be an atom? -/
def rightL (l : List UInt8) : Bool := decide (l.length ≤ 255) && validD l
def rightN (l : List UInt8) : Int := if rightL l then 0 else 20

set_option maxRecDepth 100000 in
theorem right_any (s : ByteArray) (w : World) (hs : s.size ≤ maxLen) (hT : Lib.Utf8Tabs 0 1 w) : Calls Tryd.prog 86 #[.string s] w fun e w' => e = .returned (.int .i64 (rightN s.data.toList)) ∧ Below w.heap.size w w' := by
  have hl : s.data.toList.length = s.size := by simp
  have hv := Any.utf8_ValidString Tryd.lays196 s w (by unfold maxLen at hs; omega) hT
  obtain ⟨b, hb⟩ : ∃ b, validD s.data.toList = b := ⟨_, rfl⟩
  rw [hb] at hv
  have HV := Lib.hid hv
  by_cases h : s.size ≤ 255
  · have HF : Hid (rightN s.data.toList = if b then 0 else 20) := Lib.hid (by
      unfold rightN rightL
      rw [hb, decide_eq_true (by omega : s.data.toList.length ≤ 255)]
      rfl)
    clear hv hl hb hT
    go_enter Tryd.func86, Tryd.ntmps86
    go_wp2_with fail
    refine (HV.out).mono ?_
    rintro e w1 ⟨rfl, hb1⟩
    cases b with
    | true =>
      go_wp2_with fail
      go_ret
      exact ⟨by rw [HF.out]; rfl, hb1⟩
    | false =>
      go_wp2_with fail
      go_ret
      exact ⟨by rw [HF.out]; rfl, hb1⟩
  · have HF : Hid (rightN s.data.toList = 20) := Lib.hid (by
      unfold rightN rightL
      rw [decide_eq_false (by omega : ¬ s.data.toList.length ≤ 255)]
      rfl)
    clear hv hl hb hT
    go_enter Tryd.func86, Tryd.ntmps86
    go_wp2_with fail
    go_ret
    exact ⟨by rw [HF.out]; rfl, Below.refl _ _⟩

/-! ### The document's runes -/
/-- Where each begins, how many bytes it has, the rune. -/
def runesAt (pos : Nat) : List (Nat × Nat) → List (Nat × Nat × Nat)
  | [] => []
  | (r, k) :: t => (pos, k, r) :: runesAt (pos + k) t

def cell4 (b : Bool) (x : Nat × Nat × Nat) : List Value := [.int .i64 x.1, .int .i64 x.2.1, .int .i32 x.2.2, .bool b]
def badX (x : Nat × Nat × Nat) : Bool := decide (x.2.2 = 65533 ∧ x.2.1 = 1)

theorem info107 : (Tryd.prog.info? 107).map (fun i => (i.zero, i.size, i.bytes)) = some (some (.agg #[.int .i64 0, .int .i64 0, .int .i32 0, .bool false]), 4, 24) := by kernel_rfl
theorem under104 : Tryd.prog.underlying 104 = some (.slice 107) := by kernel_rfl

theorem flat4 {α : Type} (f : α → List Value) (hf : ∀ x, (f x).length = 4) (L0 : List α) (x : α) (L1 : List α) (j : Nat) (hj : j < 4) : ((L0 ++ x :: L1).flatMap f)[L0.length * 4 + j]? = (f x)[j]? := by
  have hl : (L0.flatMap f).length = L0.length * 4 := by
    induction L0 with
    | nil => rfl
    | cons y r ih => rw [List.flatMap_cons, List.length_append, hf, ih, List.length_cons]; omega
  rw [List.flatMap_append, List.getElem?_append_right (by omega), hl, List.flatMap_cons, show L0.length * 4 + j - L0.length * 4 = j by omega, List.getElem?_append_left (by rw [hf]; exact hj)]

theorem flat4_len {α : Type} (f : α → List Value) (hf : ∀ x, (f x).length = 4) (L : List α) : (L.flatMap f).length = L.length * 4 := by
  induction L with
  | nil => rfl
  | cons y r ih => rw [List.flatMap_cons, List.length_append, hf, ih, List.length_cons]; omega

theorem flat4_set {α : Type} (f : α → List Value) (hf : ∀ x, (f x).length = 4) (L0 : List α) (x : α) (L1 : List α) (j : Nat) (hj : j < 4) (u : Value) (y : α) (hy : (f x).set j u = f y) : ((L0 ++ x :: L1).flatMap f).set (L0.length * 4 + j) u = (L0 ++ y :: L1).flatMap f := by
  have hl := flat4_len f hf L0
  rw [List.flatMap_append, List.set_append_right _ _ (by omega), hl, List.flatMap_cons, show L0.length * 4 + j - L0.length * 4 = j by omega, List.set_append_left _ _ (by rw [hf]; exact hj), hy, ← List.flatMap_cons, ← List.flatMap_append]

theorem cell4_len (b : Nat × Nat × Nat → Bool) (x : Nat × Nat × Nat) : (cell4 (b x) x).length = 4 := rfl

theorem sl_iterAt {w : World} {e size n : Nat} {v : Value} {xs : List Value} (h : Sl w e size v n xs) {k : Nat} (s : ByteArray) (pos : Nat) (hk : ∀ j, v.ownBlock = some j → j ≠ k) : Sl (w.iterAt k s pos) e size v n xs :=
  h.keep fun j hj => Lib.iterAt_other w k j s pos (hk j hj)

/-- What is known of the runes so far: the last one's length reaches to the end of the text. -/
def Sofar (s : ByteArray) (L : List (Nat × Nat × Nat)) (pos : Nat) : Prop :=
  (L = [] ∧ pos = 0) ∨ ∃ L0 a r, L = L0 ++ [(a, s.size - a, r)] ∧ a ≤ pos ∧ a ≤ s.size ∧ runesAt 0 (runes s.data.toList) = L0 ++ [(a, pos - a, r)] ++ runesAt pos (runes (s.data.toList.drop pos))

set_option maxHeartbeats 3200000 in
set_option maxRecDepth 100000 in
theorem runes_any (s : ByteArray) (w : World) (hs : s.size ≤ maxLen) (hs2 : s.size ≤ 4294967296) : Calls Tryd.prog 87 #[.string s] w fun e w' => ∃ v, e = .returned v ∧ Sl w' 107 4 v (runes s.data.toList).length ((runesAt 0 (runes s.data.toList)).flatMap fun x => cell4 (badX x) x) ∧ Below w.heap.size w w' ∧ ∀ k, v.ownBlock = some k → w.heap.size ≤ k := by
  unfold maxLen at hs
  obtain ⟨B, hB⟩ : ∃ B, w.heap.size = B := ⟨_, rfl⟩
  obtain ⟨i0, hi, hz0, hz1, hz2⟩ := info_parts info107
  have HB := Lib.hid hB
  go_enter Tryd.func87, Tryd.ntmps87
  go_wp2_with fail
  clear hB
  go_loopg [3, 4, 5] s.size (fun g s3 s4 s5 wr => ∃ (pos n : Nat) (L : List (Nat × Nat × Nat)), pos + g = s.size ∧ n ≤ pos ∧ Sl wr 107 4 s3 n (L.flatMap (cell4 false)) ∧ L.length = n ∧ (∀ k, s3.ownBlock = some k → B < k) ∧ wr.heap[B]? = some (.stringIter s pos) ∧ Below B w wr ∧ Hid (Sofar s L pos))
  case atStart =>
    have hit := World.iter_heap w s 0
    rw [HB.out] at hit
    exact ⟨0, 0, [], by omega, by omega, Sl.nil _ _ _, rfl, by simp [Value.ownBlock], hit, (Below.refl _ _).alloc (by rw [HB.out]; omega) _, Lib.hid (.inl ⟨rfl, rfl⟩)⟩
  case round =>
    obtain ⟨pos, n, L, hg, hn, hsl, hL, hob, hit, hbe, hI⟩ := hrel
    have hsz := hbe.size
    have hBr : B < wr.heap.size := bld_lt hit
    cases gk with
    | zero =>
      obtain rfl : pos = s.size := by omega
      have hnx : ∀ ty, (Instr.next (.pointer (some ⟨B, 0, none⟩)) true ty).run Tryd.prog wr = _ := fun ty => Lib.run_next_end_at wr B s s.size ty hit (by omega)
      have hfin : L = runesAt 0 (runes s.data.toList) := by
        rcases hI.out with ⟨h1, h2⟩ | ⟨L0, a, q, h1, h2, h3, h4⟩
        · have : s.data.toList = [] := (nil_iff s).2 (by omega)
          rw [h1, this]
          rfl
        · rw [drop_end (Nat.le_refl _)] at h4
          rw [h1, h4]
          simp [runes_nil, runesAt]
      have hlen : (runes s.data.toList).length = n := by
        have : ∀ (l : List (Nat × Nat)) (p : Nat), (runesAt p l).length = l.length := by
          intro l
          induction l with
          | nil => intro p; rfl
          | cons x r ih => intro p; simp [runesAt, ih]
        rw [← this (runes s.data.toList) 0, ← hfin, hL]
      have HFIN := Lib.hid hfin
      have HLEN := Lib.hid hlen
      obtain ⟨ao, cap, rfl, hc1, hc2⟩ := hsl.shape
      clear hI hfin hlen
      go_wp2_with fail
      go_loopg [43, 6] n (fun g s43 s6 wq => ∃ j : Nat, j + g = n ∧ s43 = .int .i64 j ∧ Below B w wq ∧ Sl wq 107 4 (.slice ao n cap) n ((L.take j).flatMap (fun x => cell4 (badX x) x) ++ (L.drop j).flatMap (cell4 false)))
      case atStart => exact ⟨0, by omega, rfl, hbe, by simpa using hsl⟩
      case round =>
        clear hbe hsl hit
        obtain ⟨j, hj, rfl, hbe, hsl⟩ := hrel
        cases gk with
        | zero =>
          obtain rfl : j = n := by omega
          rw [List.take_of_length_le (by omega), List.drop_eq_nil_of_le (by omega), List.flatMap_nil, List.append_nil] at hsl
          go_wp2_with fail
          go_ret
          exact ⟨_, rfl, by rw [← HFIN.out, HLEN.out]; exact hsl, by rw [HB.out]; exact hbe, fun k hk => by rw [HB.out]; have := hob k hk; omega⟩
        | succ g =>
          have hjn : j < L.length := by omega
          obtain ⟨x, hx⟩ : ∃ x, L[j]'hjn = x := ⟨_, rfl⟩
          have hdj : L.drop j = x :: L.drop (j + 1) := by rw [List.drop_eq_getElem_cons hjn, hx]
          have htj : L.take (j + 1) = L.take j ++ [x] := by rw [List.take_succ_eq_append_getElem hjn, hx]
          have htl : ((L.take j).flatMap (fun x => cell4 (badX x) x)).length = j * 4 := by
            rw [flat4_len _ (fun _ => rfl), List.length_take]; omega
          obtain ⟨g0, off, cap', cur, hv, _⟩ := hsl.blk (by omega)
          simp at hv
          obtain ⟨rfl, rfl⟩ := hv
          have hget : ∀ i, i < 4 → ((L.take j).flatMap (fun x => cell4 (badX x) x) ++ (L.drop j).flatMap (cell4 false))[j * 4 + i]? = (cell4 false x)[i]? := by
            intro i hi
            rw [List.getElem?_append_right (by omega), htl, hdj, show j * 4 + i - j * 4 = i by omega]
            exact flat4 (cell4 false) (fun _ => rfl) [] x _ i hi |>.symm ▸ (by simp [List.flatMap_cons]; rw [List.getElem?_append_left (by exact hi)])
          have hc1' := hsl.cell (j * 4 + 1) (by omega)
          have hc2' := hsl.cell (j * 4 + 2) (by omega)
          have hc3' := hsl.cell (j * 4 + 3) (by omega)
          rw [hget 1 (by omega)] at hc1'
          rw [hget 2 (by omega)] at hc2'
          rw [hget 3 (by omega)] at hc3'
          have hf3 := hsl.free (off + (j * 4 + 3))
          replace hc1' : wr.cell? ⟨g0, off + j * 4 + 1, none⟩ = some (.int .i64 x.2.1) := hc1'
          replace hc2' : wr.cell? ⟨g0, off + j * 4 + 2, none⟩ = some (.int .i32 x.2.2) := hc2'
          replace hc3' : wr.cell? ⟨g0, off + j * 4 + 3, none⟩ = some (.bool false) := hc3'
          replace hf3 : wr.frozen? ⟨g0, off + j * 4 + 3, none⟩ = false := hf3
          have hst : ∀ b, b = badX x → Sl (wr.setCell ⟨g0, off + j * 4 + 3, none⟩ (.bool b)) 107 4 (.slice (some ⟨g0, off, none⟩) n cap) n ((L.take (j + 1)).flatMap (fun x => cell4 (badX x) x) ++ (L.drop (j + 1)).flatMap (cell4 false)) := by
            rintro b rfl
            have h1 := hsl.store (j * 4 + 3) (by omega) (.bool (badX x))
            rw [List.set_append_right _ _ (by omega), htl, hdj, show j * 4 + 3 - j * 4 = 3 by omega, List.flatMap_cons, List.set_append_left _ _ (by show 3 < 4; omega)] at h1
            rw [htj, List.flatMap_append, List.append_assoc]
            exact h1
          have hbe3 : ∀ u, Below B w (wr.setCell ⟨g0, off + j * 4 + 3, none⟩ u) := fun u => hbe.setCell (p := ⟨g0, off + j * 4 + 3, none⟩) (by have := hob g0 rfl; show B ≤ g0; omega) u
          have HST := Lib.hid hst
          have HBE := Lib.hid hbe3
          clear hst hbe3 hget hdj htj htl hx hsl hbe
          go_wp2_with fail
          · go_roundg g
            case measure => omega
            case rel =>
              refine ⟨j + 1, by omega, by go_num, HBE.out _, HST.out _ ?_⟩
              have h : (x.2.2 : Int) = 65533 := by assumption
              unfold badX
              rw [Bool.eq_iff_iff]
              simp
              omega
          · go_roundg g
            case measure => omega
            case rel =>
              refine ⟨j + 1, by omega, by go_num, HBE.out _, HST.out _ ?_⟩
              have h : ¬ (x.2.2 : Int) = 65533 := by assumption
              unfold badX
              rw [Bool.eq_iff_iff]
              simp
              omega
    | succ g =>
      have hlt : pos < s.size := by omega
      obtain ⟨r, k, hd⟩ : ∃ r k, Utf8.decode s pos = (r, k) := ⟨_, _, rfl⟩
      have hk1 : 1 ≤ k := by have := Lib.width_pos s pos; rw [hd] at this; exact this
      have hne : s.data.toList.drop pos ≠ [] := by rw [drop_at hlt]; simp
      have hkl : pos + k ≤ s.size := by
        have := Lib.decodeL_le (s.data.toList.drop pos) hne
        rw [Lib.decodeL_drop, hd, List.length_drop] at this
        have hl : s.data.toList.length = s.size := by simp
        omega
      have hstep : runes (s.data.toList.drop pos) = (r, k) :: runes (s.data.toList.drop (pos + k)) := by
        rw [runes_step _ hne, Lib.decodeL_drop, hd, List.drop_drop]
      have hI2 : Hid ((L = [] ∧ pos = 0) ∨ ∃ L0 a q, L = L0 ++ [(a, s.size - a, q)] ∧ a ≤ pos ∧ Sofar s (L0 ++ [(a, pos - a, q)] ++ [(pos, s.size - pos, r)]) (pos + k)) := by
        refine Lib.hid ?_
        rcases hI.out with h | ⟨L0, a, q, h1, h2, h3, h4⟩
        · exact .inl h
        · refine .inr ⟨L0, a, q, h1, h2, .inr ⟨L0 ++ [(a, pos - a, q)], pos, r, rfl, by omega, by omega, ?_⟩⟩
          rw [h4, hstep, runesAt]
          simp
      have hnx : ∀ ty, (Instr.next (.pointer (some ⟨B, 0, none⟩)) true ty).run Tryd.prog wr = .ok (.tuple #[.bool true, .int .i64 pos, .int .i32 r]) (wr.iterAt B s (pos + k)) := fun ty => by
        have := Lib.run_next_any_at (P := Tryd.prog) wr B s pos ty hit hlt
        rw [this, hd]
      have hit2 := Lib.iterAt_heap wr B s pos (pos + k) hit
      have hB2 := Lib.below_iterAt hbe (k := B) (Nat.le_refl _) s (pos + k)
      have hsl2 := sl_iterAt hsl (k := B) s (pos + k) (fun j hj => by have := hob j hj; omega)
      have hBr2 : B < (wr.iterAt B s (pos + k)).heap.size := by rw [Lib.iterAt_size]; omega
      have HST := Lib.hid hstep
      generalize wr.iterAt B s (pos + k) = wi at hnx hit2 hB2 hsl2 hBr2
      clear hit hbe hsl hI hd hstep hne
      obtain ⟨d1, hd1⟩ : ∃ d : Nat, s.size - pos = d := ⟨_, rfl⟩
      have hsp : (s.size : Int) - (pos : Int) = (d1 : Int) := by omega
      have HD1 := Lib.hid hd1
      clear hd1
      rcases hI2.out with ⟨rfl, rfl⟩ | ⟨L0, a, q, rfl, ha, hI3⟩
      · obtain rfl : n = 0 := by simpa using hL.symm
        obtain ⟨ao, cap, rfl, _, _⟩ := hsl2.shape
        obtain rfl : d1 = s.size := by have := HD1.out; omega
        have hsl3 := hsl2
        clear hI2 hsl2 hsp hL
        go_wp2_with (at_builtin; go_loud (refine wpList_append_sl rfl (.tmp 31) (.tmp 39) 104 rfl 107 i0 (.agg #[.int .i64 0, .int .i64 0, .int .i32 0, .bool false]) 4 24 under104 hi hz0 hz1 hz2 rfl (by decide) (.slice ao 0 cap) 0 [] rfl (hsl3.alloc _) ⟨wi.heap.size, 0, none⟩ 1 1 [.int .i64 0, .int .i64 s.size, .int .i32 r, .bool false] rfl rfl ?c1 ?c2 ?b1 ?b2 ?next))
        case c1 =>
          intro j u hj
          rw [Addr.add_lit, blk_cell (heap_alloc_new _ _)]
          match j, hj with
          | 0, hj => simpa using hj
          | 1, hj => simpa using hj
          | 2, hj => simpa using hj
          | 3, hj => simpa using hj
        case c2 => intro u hu; simp at hu; rcases hu with rfl | rfl | rfl | rfl <;> rfl
        case b1 => unfold maxLen; omega
        case b2 => omega
        case next =>
        intro v' w1 hown hgrow hv
        have hS : Hid (Sofar s [(0, s.size, r)] (0 + k)) := Lib.hid (.inr ⟨[], 0, r, by simp, by omega, by omega, by
          have := HST.out
          rw [List.drop_zero] at this
          rw [this, runesAt]
          simp⟩)
        have hit3 := hgrow.at (blk_alloc (o' := .cells #[.int .i64 0, .int .i64 s.size, .int .i32 r, .bool false] 107) hit2) (fun e => by have := hob B e; omega)
        have hB3 : Below B w w1 := (hB2.alloc (by omega) _).trans (hgrow.below (by simp; omega) (fun j hj => by have := hob j hj; omega))
        have hob3 : ∀ j, v'.ownBlock = some j → B < j := by
          intro j hj
          rcases hv with h | h
          · rw [h] at hj; exact hob j hj
          · rw [h] at hj; simp at hj; omega
        clear hgrow hv hob hit2 hB2 hnx
        go_wp2_with fail
        go_roundg (g + 1 - k)
        case measure => omega
        case rel => exact ⟨0 + k, 1, [(0, s.size, r)], by omega, by omega, by simpa [cell4] using hown, rfl, hob3, hit3, hB3, hS⟩
      · obtain ⟨m, rfl⟩ : ∃ m, n = m + 1 := ⟨n - 1, by simp at hL; omega⟩
        have hL0 : L0.length = m := by simpa using hL
        obtain ⟨g0, off, cap, cur, rfl, hc1, hc2, hh, hfit, hcells⟩ := hsl2.blk (by omega)
        have hca := hsl2.cell (m * 4) (by omega)
        have hcb := hsl2.cell (m * 4 + 1) (by omega)
        have hfb := hsl2.free (off + (m * 4 + 1))
        have e1 := flat4 (cell4 false) (fun _ => rfl) L0 (a, s.size - a, q) [] 0 (by omega)
        have e2 := flat4 (cell4 false) (fun _ => rfl) L0 (a, s.size - a, q) [] 1 (by omega)
        rw [hL0] at e1 e2
        rw [Nat.add_zero] at e1
        rw [e1] at hca
        rw [e2] at hcb
        replace hca : wi.cell? ⟨g0, off + m * 4, none⟩ = some (.int .i64 a) := hca
        replace hcb : wi.cell? ⟨g0, off + m * 4 + 1, none⟩ = some (.int .i64 ((s.size - a : Nat) : Int)) := hcb
        replace hfb : wi.frozen? ⟨g0, off + m * 4 + 1, none⟩ = false := hfb
        obtain ⟨d2, hd2⟩ : ∃ d : Nat, pos - a = d := ⟨_, rfl⟩
        have hsp2 : (pos : Int) - (a : Int) = (d2 : Int) := by omega
        have hst := hsl2.store (m * 4 + 1) (by omega) (.int .i64 d2)
        have e3 := flat4_set (cell4 false) (fun _ => rfl) L0 (a, s.size - a, q) [] 1 (by omega) (.int .i64 d2) (a, d2, q) rfl
        rw [hL0] at e3
        rw [e3] at hst
        replace hst : Sl (wi.setCell ⟨g0, off + m * 4 + 1, none⟩ (.int .i64 d2)) 107 4 (.slice (some ⟨g0, off, none⟩) (m + 1) cap) (m + 1) ((L0 ++ [(a, d2, q)]).flatMap (cell4 false)) := hst
        have hob0 : B < g0 := hob g0 rfl
        have hit3 : (wi.setCell ⟨g0, off + m * 4 + 1, none⟩ (.int .i64 d2)).heap[B]? = some (.stringIter s (pos + k)) := by
          rw [blk_set_other _ (by show B ≠ g0; omega)]; exact hit2
        have hB3 : Below B w (wi.setCell ⟨g0, off + m * 4 + 1, none⟩ (.int .i64 d2)) := hB2.setCell (p := ⟨g0, off + m * 4 + 1, none⟩) (by show B ≤ g0; omega) _
        have hsz3 : B < (wi.setCell ⟨g0, off + m * 4 + 1, none⟩ (.int .i64 d2)).heap.size := by simpa [World.setCell] using hBr2
        have HI3 := Lib.hid hI3
        have HD2 := Lib.hid hd2
        clear hI2 hI3 hd2 e1 e2 e3 hcells hfit hh hsl2 hit2 hB2 hL
        have hnew : ∀ o : Obj, ((wi.setCell ⟨g0, off + m * 4 + 1, none⟩ (.int .i64 d2)).alloc o).heap[wi.heap.size]? = some o := fun o => by
          have := heap_alloc_new (wi.setCell ⟨g0, off + m * 4 + 1, none⟩ (.int .i64 d2)) o
          rwa [show (wi.setCell ⟨g0, off + m * 4 + 1, none⟩ (.int .i64 d2)).heap.size = wi.heap.size by simp [World.setCell]] at this
        have HNEW := Lib.hid hnew
        clear hnew
        go_wp2_with (at_builtin; go_loud (refine wpList_append_sl rfl (.tmp 31) (.tmp 39) 104 rfl 107 i0 (.agg #[.int .i64 0, .int .i64 0, .int .i32 0, .bool false]) 4 24 under104 hi hz0 hz1 hz2 rfl (by decide) (.slice (some ⟨g0, off, none⟩) (m + 1) cap) (m + 1) ((L0 ++ [(a, d2, q)]).flatMap (cell4 false)) rfl (hst.alloc _) ⟨wi.heap.size, 0, none⟩ 1 1 [.int .i64 pos, .int .i64 d1, .int .i32 r, .bool false] rfl rfl ?c1 ?c2 ?b1 ?b2 ?next))
        case c1 =>
          intro j u hj
          rw [Addr.add_lit, blk_cell (HNEW.out _)]
          match j, hj with
          | 0, hj => simpa using hj
          | 1, hj => simpa using hj
          | 2, hj => simpa using hj
          | 3, hj => simpa using hj
        case c2 => intro u hu; simp at hu; rcases hu with rfl | rfl | rfl | rfl <;> rfl
        case b1 => unfold maxLen; omega
        case b2 => omega
        case next =>
        intro v' w1 hown hgrow hv
        have hS : Hid (Sofar s (L0 ++ [(a, d2, q)] ++ [(pos, d1, r)]) (pos + k)) := Lib.hid (by
          have := HI3.out
          rwa [HD2.out, HD1.out] at this)
        have hit4 := hgrow.at (blk_alloc (o' := .cells #[.int .i64 pos, .int .i64 d1, .int .i32 r, .bool false] 107) hit3) (fun e => by have := hob B e; omega)
        have hB4 : Below B w w1 := (hB3.alloc (by omega) _).trans (hgrow.below (by simp; omega) (fun j hj => by have := hob j hj; omega))
        have hob3 : ∀ j, v'.ownBlock = some j → B < j := by
          intro j hj
          rcases hv with h | h
          · rw [h] at hj; exact hob j hj
          · rw [h] at hj
            simp at hj
            omega
        clear hgrow hv hob hit3 hB3 hnx hst hca hcb hfb
        go_wp2_with fail
        go_roundg (g + 1 - k)
        case measure => omega
        case rel => exact ⟨pos + k, m + 1 + 1, L0 ++ [(a, d2, q)] ++ [(pos, d1, r)], by omega, by omega, by simpa [cell4] using hown, by simp [hL0], hob3, hit4, hB4, hS⟩
theorem runesAt_len : ∀ (l : List (Nat × Nat)) (p : Nat), (runesAt p l).length = l.length
  | [], _ => rfl
  | x :: r, p => by simp [runesAt, runesAt_len r]

theorem runesAt_bad : ∀ (l : List (Nat × Nat)) (p : Nat), (runesAt p l).any badX = l.any badD
  | [], _ => rfl
  | x :: r, p => by
    simp only [runesAt, List.any_cons, runesAt_bad r]
    rfl

theorem flatg {α : Type} (f : α → List Value) (hf : ∀ x, (f x).length = 4) (L : List α) (j : Nat) (hj : j < L.length) (i : Nat) (hi : i < 4) : (L.flatMap f)[j * 4 + i]? = (f L[j])[i]? := by
  have h1 : L = L.take j ++ L[j] :: L.drop (j + 1) := by rw [← List.drop_eq_getElem_cons hj, List.take_append_drop]
  have h2 := flat4 f hf (L.take j) L[j] (L.drop (j + 1)) i hi
  rw [← h1, List.length_take, Nat.min_eq_left (by omega)] at h2
  exact h2

set_option maxHeartbeats 3200000 in
set_option maxRecDepth 100000 in
theorem rright_any (s : ByteArray) (w : World) (hs : s.size ≤ maxLen) : Calls Tryd.prog 79 #[.string s] w fun e w' => e = .returned (.int .i64 (rightN s.data.toList)) ∧ Below w.heap.size w w' := by
  have hl : s.data.toList.length = s.size := by simp
  by_cases h : s.size ≤ 255
  · obtain ⟨L, hL⟩ : ∃ L, runesAt 0 (runes s.data.toList) = L := ⟨_, rfl⟩
    obtain ⟨n, hn⟩ : ∃ n, (runes s.data.toList).length = n := ⟨_, rfl⟩
    have hra := runes_any s w hs (by omega)
    rw [hL, hn] at hra
    have hLn : L.length = n := by rw [← hL, runesAt_len, hn]
    have hn255 : n ≤ 255 := by have := runes_len_le s.data.toList; omega
    have HF : Hid (rightN s.data.toList = if L.any badX then 20 else 0) := Lib.hid (by
      unfold rightN rightL
      rw [decide_eq_true (by omega : s.data.toList.length ≤ 255), validD_runes, ← hL, runesAt_bad]
      cases (runes s.data.toList).any badD <;> rfl)
    have HR := Lib.hid hra
    clear hra hL hn hl
    go_enter Tryd.func79, Tryd.ntmps79
    go_wp2_with fail
    refine (HR.out).mono ?_
    rintro e w1 ⟨v, rfl, hsl, hb1, hob⟩
    obtain ⟨ao, cap, rfl, hc1, hc2⟩ := hsl.shape
    have HOB := Lib.hid hob
    clear hob
    go_wp2_with fail
    go_loopg [11] n (fun g s11 wr => ∃ j : Nat, j + g = n ∧ s11 = .int .i64 j ∧ Below w.heap.size w wr ∧ Below w1.heap.size w1 wr ∧ Hid ((L.take j).any badX = false))
    case atStart => exact ⟨0, by omega, rfl, hb1, Below.refl _ _, Lib.hid rfl⟩
    case round =>
      obtain ⟨j, hj, rfl, hb, hbw, hI⟩ := hrel
      cases gk with
      | zero =>
        obtain rfl : j = n := by omega
        have HG : Hid (rightN s.data.toList = 0) := Lib.hid (by
          rw [HF.out]
          have := hI.out
          rw [List.take_of_length_le (by omega)] at this
          rw [this]
          rfl)
        clear hI
        go_wp2_with fail
        go_ret
        exact ⟨by rw [HG.out]; rfl, hb⟩
      | succ g =>
        have hjn : j < L.length := by omega
        obtain ⟨x, hx⟩ : ∃ x, L[j]'hjn = x := ⟨_, rfl⟩
        have htj : L.take (j + 1) = L.take j ++ [x] := by rw [List.take_succ_eq_append_getElem hjn, hx]
        have hsl2 : Sl wr 107 4 (.slice ao n cap) n (L.flatMap fun x => cell4 (badX x) x) := hsl.keep fun k hk => hbw.block k (hsl.lt k hk)
        obtain ⟨g0, off, cap', cur, hv, _⟩ := hsl2.blk (by omega)
        simp at hv
        obtain ⟨rfl, rfl⟩ := hv
        have hget := flatg (fun x => cell4 (badX x) x) (fun _ => rfl) L j hjn
        rw [hx] at hget
        have c0 := hsl2.cell (j * 4) (by omega)
        have c1 := hsl2.cell (j * 4 + 1) (by omega)
        have c2 := hsl2.cell (j * 4 + 2) (by omega)
        have c3 := hsl2.cell (j * 4 + 3) (by omega)
        rw [hget 1 (by omega)] at c1
        rw [hget 2 (by omega)] at c2
        rw [hget 3 (by omega)] at c3
        have h0 := hget 0 (by omega)
        rw [Nat.add_zero] at h0
        rw [h0] at c0
        obtain ⟨b, hb'⟩ : ∃ b, badX x = b := ⟨_, rfl⟩
        replace c0 : wr.cell? ⟨g0, off + j * 4, none⟩ = some (.int .i64 x.1) := c0
        replace c1 : wr.cell? ⟨g0, off + j * 4 + 1, none⟩ = some (.int .i64 x.2.1) := c1
        replace c2 : wr.cell? ⟨g0, off + j * 4 + 2, none⟩ = some (.int .i32 x.2.2) := c2
        replace c3 : wr.cell? ⟨g0, off + j * 4 + 3, none⟩ = some (.bool (badX x)) := c3
        rw [hb'] at c3
        have HT := Lib.hid htj
        have HX := Lib.hid hx
        have HBX := Lib.hid hb'
        have hsz := hb.size
        have hsz1 := hbw.size
        clear hget h0 htj hx hb' hsl2
        cases b with
        | true =>
          have HG : Hid (rightN s.data.toList = 20) := Lib.hid (by
            rw [HF.out, if_pos]
            rw [List.any_eq_true]
            exact ⟨x, by rw [← HX.out]; exact List.getElem_mem hjn, HBX.out⟩)
          go_wp2_with fail
          go_ret
          exact ⟨by rw [HG.out]; rfl, hb.alloc (by omega) _⟩
        | false =>
          go_wp2_with fail
          go_roundg g
          case measure => omega
          case rel =>
            refine ⟨j + 1, by omega, by go_num, hb.alloc (by omega) _, hbw.alloc (by omega) _, Lib.hid ?_⟩
            rw [HT.out, List.any_append, hI.out, List.any_cons, HBX.out]
            rfl
  · have HF : Hid (rightN s.data.toList = 20) := Lib.hid (by
      unfold rightN rightL
      rw [decide_eq_false (by omega : ¬ s.data.toList.length ≤ 255)]
      rfl)
    clear hl
    go_enter Tryd.func79, Tryd.ntmps79
    go_wp2_with fail
    go_ret
    exact ⟨by rw [HF.out]; rfl, Below.refl _ _⟩
end Go.Proofs.YtkhjdcnlpablkaaDoor
