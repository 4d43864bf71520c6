/- Quote of a short plain text; the first examples (awake). -/
import Derived.Test.YtflbcijmfcmilaaDoorBld
namespace Go.Proofs.YtflbcijmfcmilaaDoor
open Go.RowKit

theorem escape_plain (r : Int) (w : World) (h0 : 32 ≤ r) (h1 : r ≤ 126) : Calls Tryd.prog 35 #[.int .i32 r] w fun e w' => e = .returned (.int .u8 0) ∧ w' = w := by
  have e1 : (r == 8) = false := by simp; omega
  have e2 : (r == 9) = false := by simp; omega
  have e3 : (r == 10) = false := by simp; omega
  have e4 : (r == 11) = false := by simp; omega
  have e5 : (r == 12) = false := by simp; omega
  have e6 : (r == 13) = false := by simp; omega
  have e7 : (r == 27) = false := by simp; omega
  have e8 : (r == 127) = false := by simp; omega
  go_enter Tryd.func35, Tryd.ntmps35
  go_wp2_with fail
  go_ret
  exact ⟨rfl, rfl⟩

def escB (x : UInt8) : List UInt8 := if x = 39 ∨ x = 92 then [92, x] else [x]
def escL (l : List UInt8) : List UInt8 := l.flatMap escB

theorem escB_len (x : UInt8) : (escB x).length ≤ 2 := by unfold escB; split <;> simp
theorem escL_len : ∀ l : List UInt8, (escL l).length ≤ 2 * l.length
  | [] => by simp [escL]
  | x :: r => by
    have h1 := escB_len x
    have h2 := escL_len r
    unfold escL at h2 ⊢
    rw [List.flatMap_cons, List.length_append, List.length_cons]
    omega

/-- All bytes printable. -/
def Plain (s : ByteArray) : Prop := ∀ x ∈ s.data.toList, 32 ≤ x.toNat ∧ x.toNat ≤ 126

theorem Plain.ascii {s : ByteArray} (h : Plain s) : Ascii s := fun x hx => by have := h x hx; omega

theorem Plain.at {s : ByteArray} (h : Plain s) {i : Nat} (hi : i < s.size) : 32 ≤ (s[i]'hi).toNat ∧ (s[i]'hi).toNat ≤ 126 := h _ (by
  show s.data[i] ∈ s.data.toList
  simp)

theorem take_at {s : ByteArray} {m : Nat} (h : m < s.size) : s.data.toList.take (m + 1) = s.data.toList.take m ++ [s[m]] := by
  have : m < s.data.toList.length := by simpa using h
  rw [List.take_succ_eq_append_getElem this]
  rfl

theorem cells_add (l : List UInt8) (x : UInt8) : Lib.byteCells (l ++ [x]) = Lib.byteCells l ++ [.int .u8 x.toNat] := by rw [Lib.byteCells_append]; rfl

theorem byte_lit (x : UInt8) (n : Nat) (h : x.toNat = n) (hn : n < 256) : x = n.toUInt8 := by
  apply UInt8.toNat.inj
  rw [h]
  simp; omega

set_option maxHeartbeats 3200000 in
set_option maxRecDepth 100000 in
theorem quote_short (s : ByteArray) (w : World) (hs : s.size ≤ 8) (hp : Plain s) (hb : ∀ w, Calls Tryd.prog 15 #[.string s] w fun e w' => e = .returned (.bool false) ∧ w' = w) :
    Calls Tryd.prog 11 #[.string s] w fun e w' => e = .returned (.tuple #[.string ⟨([39] ++ escL s.data.toList ++ [39]).toArray⟩, .int .i64 0]) ∧ Below w.heap.size w w' := by
  obtain ⟨B, hB⟩ : ∃ B, w.heap.size = B := ⟨_, rfl⟩
  go_enter Tryd.func11, Tryd.ntmps11
  go_wp2_with fail
  refine (right_short s _ hs hp.ascii).mono ?_
  rintro e w1 ⟨rfl, rfl⟩
  go_wp2_with fail
  refine (hb _).mono ?_
  rintro e w1 ⟨rfl, rfl⟩
  have hf : BldF w1.heap.size w1.heap.size [] (w1.alloc (.cells #[.pointer none, .slice none 0 0] 53)) := Lib.IsBuilderF.of (Lib.fresh_isBuilder 53 5 w1)
  have hbe : Below B w1 (w1.alloc (.cells #[.pointer none, .slice none 0 0] 53)) := (Below.refl _ _).alloc (by omega) _
  rw [hB] at hf
  go_wp2_with fail
  refine (WriteByte_any B B [] 39 _ hf (by simp) (by simp; omega)).mono ?_
  rintro e w2 ⟨rfl, hat, hb2, _⟩
  have hB2 : Below B w1 w2 := hbe.trans hb2
  have hs2 : B ≤ w2.heap.size := by have := hB2.size; omega
  obtain ⟨K, hK⟩ : ∃ K, w2.heap.size = K := ⟨_, rfl⟩
  have hKB : B < K := by have := hat.lt; omega
  have hf3 : BldF B B [.int .u8 39] (w2.iter s 0) := Lib.IsBuilderF.alloc (Or.inr hat) _
  have hit3 : (w2.iter s 0).heap[w2.heap.size]? = some (.stringIter s 0) := World.iter_heap w2 s 0
  have hB3 : Below B w1 (w2.iter s 0) := hB2.alloc hs2 _
  rw [hK] at hit3
  clear hf hbe hat hb2 hB2 hb
  have HB := Lib.hid hB
  clear hB
  go_wp2_with fail
  go_loopg [7, 8] s.size (fun g s7 s8 wr => ∃ pos : Nat, pos + g = s.size ∧ BldF B B (Lib.byteCells ([39] ++ escL (s.data.toList.take pos))) wr ∧ wr.heap[K]? = some (.stringIter s pos) ∧ Below B w1 wr)
  case atStart => exact ⟨0, by omega, by simpa [Lib.byteCells, escL] using hf3, hit3, hB3⟩
  case round =>
    clear hf3 hit3 hB3
    obtain ⟨pos, hg, hf, hit, hB3⟩ := hrel
    have hsz := hB3.size
    have hBr : B ≤ wr.heap.size := by have := HB.out; omega
    have hKl : K < wr.heap.size := bld_lt hit
    cases gk with
    | zero =>
      obtain rfl : pos = s.size := by omega
      have hnx : ∀ ty, (Instr.next (.pointer (some ⟨K, 0, none⟩)) true ty).run Tryd.prog wr = _ := fun ty => Lib.run_next_end_at wr K s s.size ty hit (by omega)
      rw [List.take_of_length_le (by simp)] at hf
      have hl := escL_len s.data.toList
      have hsl : s.data.toList.length = s.size := by simp
      go_wp2_with fail
      refine (WriteByte_any B B _ 39 _ hf (by rw [Lib.byteCells_length]; simp; omega) hBr).mono ?_
      rintro e w4 ⟨rfl, hat, hb4, _⟩
      have hf4 : BldF B B (Lib.byteCells ([39] ++ escL s.data.toList ++ [39])) w4 := by
        rw [cells_add]; exact Or.inr hat
      have hB4 : Below B w1 w4 := hB3.trans hb4
      clear hat hb4 hf hnx hit
      go_wp2_with fail
      refine (Tryd.Builder_String_any_k B B _ _ hf4 (by have := hB4.size; have := HB.out; omega)).mono ?_
      rintro e w5 ⟨rfl, _, hb5, _⟩
      go_wp2_with fail
      go_ret2
      exact ⟨rfl, by rw [HB.out]; exact hB4.trans hb5⟩
    | succ g =>
      have hlt : pos < s.size := by omega
      obtain ⟨p0, p1⟩ := hp.at hlt
      obtain ⟨x, hx⟩ : ∃ x, s[pos]'hlt = x := ⟨_, rfl⟩
      rw [hx] at p0 p1
      have hnx : ∀ ty, (Instr.next (.pointer (some ⟨K, 0, none⟩)) true ty).run Tryd.prog wr = .ok (.tuple #[.bool true, .int .i64 pos, .int .i32 x.toNat]) (wr.iterAt K s (pos + 1)) := fun ty => by
        have := Lib.run_next_ascii_at (P := Tryd.prog) wr K s pos ty hit hlt (by rw [hx]; omega)
        rw [this, hx]
      have hf2 := hf.iterAt hit (pos + 1)
      have hit2 := Lib.iterAt_heap wr K s pos (pos + 1) hit
      have hB2 := Lib.below_iterAt hB3 (k := K) (by omega) s (pos + 1)
      have hs2' : B ≤ (wr.iterAt K s (pos + 1)).heap.size := by rw [Lib.iterAt_size]; omega
      have hl := escL_len (s.data.toList.take pos)
      have hll : (s.data.toList.take pos).length ≤ 8 := by simp; omega
      have HT := Lib.hid (show s.data.toList.take (pos + 1) = s.data.toList.take pos ++ [x] by rw [take_at hlt, hx])
      generalize wr.iterAt K s (pos + 1) = wi at hnx hf2 hit2 hB2 hs2'
      clear hf hit hB3
      have hrc : Lib.runeCells ((x.toNat : Nat) : Int) = [.int .u8 x.toNat] := by simp [Lib.runeCells, Lib.encodeRuneZ_one (r := ((x.toNat : Nat) : Int)) (by omega) (by omega)]
      by_cases h39 : x.toNat = 39
      · obtain rfl : x = 39 := byte_lit x 39 h39 (by omega)
        clear h39
        replace hnx : ∀ ty, (Instr.next (.pointer (some ⟨K, 0, none⟩)) true ty).run Tryd.prog wr = .ok (.tuple #[.bool true, .int .i64 pos, .int .i32 39]) wi := hnx
        clear hrc p0 p1 hx
        go_wp2_with fail
        refine (escape_plain 39 _ (by omega) (by omega)).mono ?_
        rintro e w4 ⟨rfl, rfl⟩
        go_wp2_with fail
        refine (WriteByte_any B B _ 92 _ hf2 (by rw [Lib.byteCells_length]; simp; omega) hs2').mono ?_
        rintro e w5 ⟨rfl, hat, hb5, hk5⟩
        have hf5 : BldF B B (Lib.byteCells ([39] ++ escL (s.data.toList.take pos) ++ [92])) w5 := by
          rw [cells_add]; exact Or.inr hat
        have hB5 := hB2.trans hb5
        have hit5 := hk5.iter hit2 (by omega)
        clear hat hb5 hk5 hf2
        go_wp2_with fail
        refine (WriteRune_any B B _ 39 (by omega) (by omega) _ hf5 (by rw [Lib.byteCells_length]; simp; omega) (by have := hB5.size; have := HB.out; omega)).mono ?_
        rintro e w6 ⟨rfl, hat, hb6, hk6⟩
        have hf6 : BldF B B (Lib.byteCells ([39] ++ escL (s.data.toList.take (pos + 1)))) w6 := by
          rw [HT.out, escL, List.flatMap_append, show ([39] : List UInt8).flatMap escB = [92] ++ [39] by decide, ← List.append_assoc, ← List.append_assoc, cells_add]
          exact Or.inr hat
        have hB6 := hB5.trans hb6
        have hit6 := hk6.iter hit5 (by omega)
        clear hat hb6 hk6 hf5
        go_wp2_with fail
        go_roundg g
        case measure => omega
        case rel => exact ⟨pos + 1, by omega, hf6, hit6, hB6⟩
      · by_cases h92 : x.toNat = 92
        · obtain rfl : x = 92 := byte_lit x 92 h92 (by omega)
          clear h39 h92
          replace hnx : ∀ ty, (Instr.next (.pointer (some ⟨K, 0, none⟩)) true ty).run Tryd.prog wr = .ok (.tuple #[.bool true, .int .i64 pos, .int .i32 92]) wi := hnx
          clear hrc p0 p1 hx
          go_wp2_with fail
          refine (escape_plain 92 _ (by omega) (by omega)).mono ?_
          rintro e w4 ⟨rfl, rfl⟩
          go_wp2_with fail
          refine (WriteByte_any B B _ 92 _ hf2 (by rw [Lib.byteCells_length]; simp; omega) hs2').mono ?_
          rintro e w5 ⟨rfl, hat, hb5, hk5⟩
          have hf5 : BldF B B (Lib.byteCells ([39] ++ escL (s.data.toList.take pos) ++ [92])) w5 := by
            rw [cells_add]; exact Or.inr hat
          have hB5 := hB2.trans hb5
          have hit5 := hk5.iter hit2 (by omega)
          clear hat hb5 hk5 hf2
          go_wp2_with fail
          refine (WriteRune_any B B _ 92 (by omega) (by omega) _ hf5 (by rw [Lib.byteCells_length]; simp; omega) (by have := hB5.size; have := HB.out; omega)).mono ?_
          rintro e w6 ⟨rfl, hat, hb6, hk6⟩
          have hf6 : BldF B B (Lib.byteCells ([39] ++ escL (s.data.toList.take (pos + 1)))) w6 := by
            rw [HT.out, escL, List.flatMap_append, show ([92] : List UInt8).flatMap escB = [92] ++ [92] by decide, ← List.append_assoc, ← List.append_assoc, cells_add]
            exact Or.inr hat
          have hB6 := hB5.trans hb6
          have hit6 := hk6.iter hit5 (by omega)
          clear hat hb6 hk6 hf5
          go_wp2_with fail
          go_roundg g
          case measure => omega
          case rel => exact ⟨pos + 1, by omega, hf6, hit6, hB6⟩
        · have q39 : (((x.toNat : Nat) : Int) == 39) = false := by simp; omega
          have q92 : (((x.toNat : Nat) : Int) == 92) = false := by simp; omega
          have HE : Hid (¬ (x = 39 ∨ x = 92)) := Lib.hid (by rintro (rfl | rfl); exact h39 rfl; exact h92 rfl)
          go_wp2_with fail
          refine (escape_plain _ _ (by omega) (by omega)).mono ?_
          rintro e w4 ⟨rfl, rfl⟩
          go_wp2_with fail
          refine (WriteRune_any B B _ x.toNat (by omega) (by omega) _ hf2 (by rw [Lib.byteCells_length]; simp; omega) hs2').mono ?_
          rintro e w6 ⟨rfl, hat, hb6, hk6⟩
          rw [hrc] at hat
          have hf6 : BldF B B (Lib.byteCells ([39] ++ escL (s.data.toList.take (pos + 1)))) w6 := by
            rw [HT.out, escL, List.flatMap_append, show [x].flatMap escB = [x] by simp [escB, HE.out], ← List.append_assoc, cells_add]
            exact Or.inr hat
          have hB6 := hB2.trans hb6
          have hit6 := hk6.iter hit2 (by omega)
          clear hat hb6 hk6 hf2
          go_wp2_with fail
          go_roundg g
          case measure => omega
          case rel => exact ⟨pos + 1, by omega, hf6, hit6, hB6⟩


theorem compare_any (a b : ByteArray) (w : World) : Calls Tryd.prog 22 #[.string a, .string b] w fun e w' => e = .returned (.int .i64 (Lib.compareBytes a.data.toList b.data.toList)) ∧ w' = w := by
  go_enter Tryd.func22, Tryd.ntmps22
  go_wp2_with fail
  refine (Tryd.strings_Compare a b w).mono ?_
  rintro e w' ⟨rfl, rfl⟩
  go_wp2_with fail
  go_ret
  exact ⟨rfl, rfl⟩

theorem its_plain : Plain ⟨#[105, 116, 39, 115]⟩ := by
  intro x hx
  simp at hx
  rcases hx with rfl | rfl | rfl | rfl <;> decide

theorem quote_its (w : World) : Calls Tryd.prog 11 #[.string ⟨#[105, 116, 39, 115]⟩] w fun e w' => e = .returned (.tuple #[.string ⟨#[39, 105, 116, 92, 39, 115, 39]⟩, .int .i64 0]) ∧ Below w.heap.size w w' :=
  (quote_short ⟨#[105, 116, 39, 115]⟩ w (by decide) its_plain bare_its).mono fun _ _ h => ⟨h.1, h.2⟩

theorem compare_Za (w : World) : Calls Tryd.prog 22 #[.string ⟨#[90]⟩, .string ⟨#[97]⟩] w fun e w' => e = .returned (.int .i64 (-1)) ∧ w' = w :=
  (compare_any ⟨#[90]⟩ ⟨#[97]⟩ w).mono fun _ _ h => ⟨h.1, h.2⟩

set_option maxRecDepth 100000 in
theorem awake_any (w : World) : Calls Tryd.prog 17 #[] w fun e w' => e = .returned (.bool true) ∧ Below w.heap.size w w' := by
  go_enter Tryd.func17, Tryd.ntmps17
  go_wp2_with fail
  refine (quote_its w).mono ?_
  rintro e w1 ⟨rfl, hb1⟩
  go_wp2_with fail
  refine (unquote_ok _).mono ?_
  rintro e w2 ⟨rfl, rfl⟩
  go_wp2_with fail
  refine (compare_Za _).mono ?_
  rintro e w3 ⟨rfl, rfl⟩
  go_wp2_with fail
  refine (bare_ok _).mono ?_
  rintro e w4 ⟨rfl, rfl⟩
  go_wp2_with fail
  go_ret
  exact ⟨rfl, hb1⟩
end Go.Proofs.YtflbcijmfcmilaaDoor
