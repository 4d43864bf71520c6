/- The document's named, control. -/
import Derived.Test.YtflbcijmfcmilaaDoorRnum
namespace Go.Proofs.YtflbcijmfcmilaaDoor
open Go.RowKit
open Go.Lib (decodeL encodeRune)

/-- The first rune of what is left of a text. -/
def FirstR (r k : Nat) (w : World) (e : Ending) (w' : World) : Prop :=
  ∃ g off n cap, e = .returned (.slice (some ⟨g, off, none⟩) n cap) ∧ 1 ≤ n ∧ n ≤ cap ∧ cap ≤ maxLen ∧ w'.cell? ⟨g, off, none⟩ = some (.int .i64 0) ∧ w'.cell? ⟨g, off + 1, none⟩ = some (.int .i64 k) ∧ w'.cell? ⟨g, off + 2, none⟩ = some (.int .i32 r) ∧ w'.cell? ⟨g, off + 3, none⟩ = some (.bool (badD (r, k))) ∧ Below w.heap.size w w'

theorem first_rune (s : ByteArray) (pos r k : Nat) (hlt : pos < s.size) (hs : s.size ≤ 4294967296) (hd : decodeL (s.data.toList.drop pos) = (r, k)) (w : World) :
    Calls Tryd.prog 40 #[.string (s.extract pos s.size)] w (FirstR r k w) := by
  have hsz : (s.extract pos s.size).size = s.size - pos := by simp
  have hl : (s.extract pos s.size).data.toList = s.data.toList.drop pos := by rw [ext_drop]
  have hne : s.data.toList.drop pos ≠ [] := by rw [drop_at hlt]; simp
  have hr := runes_any (s.extract pos s.size) w (by rw [hsz]; unfold maxLen; omega) (by rw [hsz]; omega)
  rw [hl, runes_step _ hne, hd] at hr
  refine hr.mono ?_
  rintro e w' ⟨v, rfl, hsl, hb, _⟩
  have hn : 0 < (((r, k) : Nat × Nat) :: runes ((s.data.toList.drop pos).drop (r, k).2)).length := by simp
  obtain ⟨g, off, cap, cur, rfl, h1, h2, _⟩ := hsl.blk hn
  have hget : ∀ i, i < 4 → ((runesAt 0 (((r, k) : Nat × Nat) :: runes ((s.data.toList.drop pos).drop (r, k).2))).flatMap fun x => cell4 (badX x) x)[i]? = (cell4 (badX (0, k, r)) (0, k, r))[i]? := by
    intro i hi
    have := flatg (fun x => cell4 (badX x) x) (fun _ => rfl) (runesAt 0 (((r, k) : Nat × Nat) :: runes ((s.data.toList.drop pos).drop (r, k).2))) 0 (by simp [runesAt]) i hi
    rw [Nat.zero_mul, Nat.zero_add] at this
    exact this
  have hlen : 4 ≤ (((r, k) : Nat × Nat) :: runes ((s.data.toList.drop pos).drop (r, k).2)).length * 4 := by simp only [List.length_cons]; omega
  have c0 := hsl.cell 0 (by omega)
  have c1 := hsl.cell 1 (by omega)
  have c2 := hsl.cell 2 (by omega)
  have c3 := hsl.cell 3 (by omega)
  rw [hget 0 (by omega)] at c0
  rw [hget 1 (by omega)] at c1
  rw [hget 2 (by omega)] at c2
  rw [hget 3 (by omega)] at c3
  exact ⟨g, off, _, cap, rfl, hn, h1, h2, c0, c1, c2, c3, hb⟩

theorem named_fin : ∀ n : Nat, n < 256 → n ≠ 98 → n ≠ 116 → n ≠ 110 → n ≠ 118 → n ≠ 102 → n ≠ 114 → n ≠ 101 → n ≠ 100 → unescF n = if n = 115 then some 32 else none := by
  intro n _ h1 h2 h3 h4 h5 h6 h7 h8
  unfold unescF
  rw [if_neg h1, if_neg h2, if_neg h3, if_neg h4, if_neg h5, if_neg h6, if_neg h7, if_neg h8]

/-- What named answers. -/
def namedV (pos : Nat) (n r k : Nat) : Value := match unescF n with
  | some v => .tuple #[.int .i64 v, .int .i64 ((pos + 1 : Nat) : Int)]
  | none => if badD (r, k) then .tuple #[.int .i64 (-1), .int .i64 pos] else .tuple #[.int .i64 r, .int .i64 ((pos + k : Nat) : Int)]

set_option maxHeartbeats 6400000 in
set_option maxRecDepth 100000 in
theorem named_any (s : ByteArray) (pos n r k : Nat) (hlt : pos < s.size) (hs : s.size ≤ 4294967296) (hn : (s[pos]'hlt).toNat = n) (hd : decodeL (s.data.toList.drop pos) = (r, k)) (w : World) :
    Calls Tryd.prog 78 #[.string s, .int .i64 pos] w fun e w' => e = .returned (namedV pos n r k) ∧ Below w.heap.size w w' := by
  have hn256 : n < 256 := by rw [← hn]; exact (s[pos]'hlt).toNat_lt
  have HFR : Hid (∀ w, Calls Tryd.prog 40 #[.string (s.extract pos s.size)] w (FirstR r k w)) := Lib.hid fun w => first_rune s pos r k hlt hs hd w
  obtain ⟨b, hb⟩ : ∃ b, w.heap.size = b := ⟨_, rfl⟩
  have hnew : (w.alloc (.cells #[.int .i64 8, .int .i64 9, .int .i64 10, .int .i64 11, .int .i64 12, .int .i64 13, .int .i64 27, .int .i64 127] 3)).heap[b]? = some (.cells #[.int .i64 8, .int .i64 9, .int .i64 10, .int .i64 11, .int .i64 12, .int .i64 13, .int .i64 27, .int .i64 127] 3 (0, 0)) := by
    rw [← hb]; exact heap_alloc_new w _
  have hbel : Below b w (w.alloc (.cells #[.int .i64 8, .int .i64 9, .int .i64 10, .int .i64 11, .int .i64 12, .int .i64 13, .int .i64 27, .int .i64 127] 3)) := (Below.refl b w).alloc (by omega) _
  have hps : (pos : Int) < (s.size : Int) := by omega
  have hrle : r ≤ 1114111 := by
    have := Lib.decodeL_rune (s.data.toList.drop pos)
    rw [hd] at this
    exact this
  have hkle : k ≤ 4 := by
    have h := hd
    rw [Lib.decodeL_N] at h
    rcases Lib.decodeN_shape (s.data.toList.drop pos).length ((s.data.toList.drop pos).getD 0 0).toNat ((s.data.toList.drop pos).getD 1 0).toNat ((s.data.toList.drop pos).getD 2 0).toNat ((s.data.toList.drop pos).getD 3 0).toNat with ⟨_, e⟩ | ⟨_, _, _, _, e⟩ | ⟨_, _, _, _, _, _, e⟩ | ⟨_, _, _, _, _, _, _, e⟩ | e
    all_goals (rw [e] at h; have := congrArg Prod.snd h; simp only at this; omega)
  have HB := Lib.hid hb
  have HNEW := Lib.hid hnew
  have HBEL := Lib.hid hbel
  clear hd hnew hbel
  go_enter Tryd.func78, Tryd.ntmps78
  go_wp2_with fail
  clear hb
  go_loopg [13, 8] 8 (fun g s13 s8 wr => ∃ i : Nat, i + g = 8 ∧ s13 = .int .i64 i ∧ wr.heap[b]? = some (.cells #[.int .i64 8, .int .i64 9, .int .i64 10, .int .i64 11, .int .i64 12, .int .i64 13, .int .i64 27, .int .i64 127] 3 (0, 0)) ∧ Below b w wr ∧ Hid ((0 < i → n ≠ 98) ∧ (1 < i → n ≠ 116) ∧ (2 < i → n ≠ 110) ∧ (3 < i → n ≠ 118) ∧ (4 < i → n ≠ 102) ∧ (5 < i → n ≠ 114) ∧ (6 < i → n ≠ 101) ∧ (7 < i → n ≠ 100)))
  case atStart => exact ⟨0, rfl, rfl, HNEW.out, HBEL.out, Lib.hid ⟨by omega, by omega, by omega, by omega, by omega, by omega, by omega, by omega⟩⟩
  case round =>
    clear HNEW HBEL
    obtain ⟨i, hi, rfl, hblk, hbe, hI⟩ := hrel
    have hcases : i = 0 ∨ i = 1 ∨ i = 2 ∨ i = 3 ∨ i = 4 ∨ i = 5 ∨ i = 6 ∨ i = 7 ∨ i = 8 := by omega
    rcases hcases with rfl | rfl | rfl | rfl | rfl | rfl | rfl | rfl | rfl
    · have hci := blk_cell hblk 0
      simp at hci
      have hlj : ((⟨#[98, 116, 110, 118, 102, 114, 101, 100]⟩ : ByteArray)[0]'(by decide)).toNat = 98 := rfl
      by_cases hL : n = 98
      · have HF : Hid (namedV pos n r k = .tuple #[.int .i64 8, .int .i64 ((pos : Int) + 1)]) := Lib.hid (by rw [hL]; rfl)
        rw [hL] at hn
        clear hI hblk
        go_wp2_with fail
        go_quiet (fail)
        go_wp2_with fail
        go_ret2
        exact ⟨by rw [HF.out]; rfl, by rw [HB.out]; exact bel_drewN hbe _⟩
      · have hLz : ((n : Int) == 98) = false := beq_false_of_ne (by omega)
        have HN : Hid ((0 < 1 → n ≠ 98) ∧ (1 < 1 → n ≠ 116) ∧ (2 < 1 → n ≠ 110) ∧ (3 < 1 → n ≠ 118) ∧ (4 < 1 → n ≠ 102) ∧ (5 < 1 → n ≠ 114) ∧ (6 < 1 → n ≠ 101) ∧ (7 < 1 → n ≠ 100)) := Lib.hid (by
          have := hI.out
          refine ⟨?_, ?_, ?_, ?_, ?_, ?_, ?_, ?_⟩ <;> omega)
        clear hI hL hci
        go_wp2_with fail
        go_quiet (fail)
        go_wp2_with fail
        go_roundg 7
        case measure => omega
        case rel => exact ⟨1, by omega, rfl, hblk, bel_drewN hbe _, HN⟩
    · have hci := blk_cell hblk 1
      simp at hci
      have hlj : ((⟨#[98, 116, 110, 118, 102, 114, 101, 100]⟩ : ByteArray)[1]'(by decide)).toNat = 116 := rfl
      by_cases hL : n = 116
      · have HF : Hid (namedV pos n r k = .tuple #[.int .i64 9, .int .i64 ((pos : Int) + 1)]) := Lib.hid (by rw [hL]; rfl)
        rw [hL] at hn
        clear hI hblk
        go_wp2_with fail
        go_quiet (fail)
        go_wp2_with fail
        go_ret2
        exact ⟨by rw [HF.out]; rfl, by rw [HB.out]; exact bel_drewN hbe _⟩
      · have hLz : ((n : Int) == 116) = false := beq_false_of_ne (by omega)
        have HN : Hid ((0 < 2 → n ≠ 98) ∧ (1 < 2 → n ≠ 116) ∧ (2 < 2 → n ≠ 110) ∧ (3 < 2 → n ≠ 118) ∧ (4 < 2 → n ≠ 102) ∧ (5 < 2 → n ≠ 114) ∧ (6 < 2 → n ≠ 101) ∧ (7 < 2 → n ≠ 100)) := Lib.hid (by
          have := hI.out
          refine ⟨?_, ?_, ?_, ?_, ?_, ?_, ?_, ?_⟩ <;> omega)
        clear hI hL hci
        go_wp2_with fail
        go_quiet (fail)
        go_wp2_with fail
        go_roundg 6
        case measure => omega
        case rel => exact ⟨2, by omega, rfl, hblk, bel_drewN hbe _, HN⟩
    · have hci := blk_cell hblk 2
      simp at hci
      have hlj : ((⟨#[98, 116, 110, 118, 102, 114, 101, 100]⟩ : ByteArray)[2]'(by decide)).toNat = 110 := rfl
      by_cases hL : n = 110
      · have HF : Hid (namedV pos n r k = .tuple #[.int .i64 10, .int .i64 ((pos : Int) + 1)]) := Lib.hid (by rw [hL]; rfl)
        rw [hL] at hn
        clear hI hblk
        go_wp2_with fail
        go_quiet (fail)
        go_wp2_with fail
        go_ret2
        exact ⟨by rw [HF.out]; rfl, by rw [HB.out]; exact bel_drewN hbe _⟩
      · have hLz : ((n : Int) == 110) = false := beq_false_of_ne (by omega)
        have HN : Hid ((0 < 3 → n ≠ 98) ∧ (1 < 3 → n ≠ 116) ∧ (2 < 3 → n ≠ 110) ∧ (3 < 3 → n ≠ 118) ∧ (4 < 3 → n ≠ 102) ∧ (5 < 3 → n ≠ 114) ∧ (6 < 3 → n ≠ 101) ∧ (7 < 3 → n ≠ 100)) := Lib.hid (by
          have := hI.out
          refine ⟨?_, ?_, ?_, ?_, ?_, ?_, ?_, ?_⟩ <;> omega)
        clear hI hL hci
        go_wp2_with fail
        go_quiet (fail)
        go_wp2_with fail
        go_roundg 5
        case measure => omega
        case rel => exact ⟨3, by omega, rfl, hblk, bel_drewN hbe _, HN⟩
    · have hci := blk_cell hblk 3
      simp at hci
      have hlj : ((⟨#[98, 116, 110, 118, 102, 114, 101, 100]⟩ : ByteArray)[3]'(by decide)).toNat = 118 := rfl
      by_cases hL : n = 118
      · have HF : Hid (namedV pos n r k = .tuple #[.int .i64 11, .int .i64 ((pos : Int) + 1)]) := Lib.hid (by rw [hL]; rfl)
        rw [hL] at hn
        clear hI hblk
        go_wp2_with fail
        go_quiet (fail)
        go_wp2_with fail
        go_ret2
        exact ⟨by rw [HF.out]; rfl, by rw [HB.out]; exact bel_drewN hbe _⟩
      · have hLz : ((n : Int) == 118) = false := beq_false_of_ne (by omega)
        have HN : Hid ((0 < 4 → n ≠ 98) ∧ (1 < 4 → n ≠ 116) ∧ (2 < 4 → n ≠ 110) ∧ (3 < 4 → n ≠ 118) ∧ (4 < 4 → n ≠ 102) ∧ (5 < 4 → n ≠ 114) ∧ (6 < 4 → n ≠ 101) ∧ (7 < 4 → n ≠ 100)) := Lib.hid (by
          have := hI.out
          refine ⟨?_, ?_, ?_, ?_, ?_, ?_, ?_, ?_⟩ <;> omega)
        clear hI hL hci
        go_wp2_with fail
        go_quiet (fail)
        go_wp2_with fail
        go_roundg 4
        case measure => omega
        case rel => exact ⟨4, by omega, rfl, hblk, bel_drewN hbe _, HN⟩
    · have hci := blk_cell hblk 4
      simp at hci
      have hlj : ((⟨#[98, 116, 110, 118, 102, 114, 101, 100]⟩ : ByteArray)[4]'(by decide)).toNat = 102 := rfl
      by_cases hL : n = 102
      · have HF : Hid (namedV pos n r k = .tuple #[.int .i64 12, .int .i64 ((pos : Int) + 1)]) := Lib.hid (by rw [hL]; rfl)
        rw [hL] at hn
        clear hI hblk
        go_wp2_with fail
        go_quiet (fail)
        go_wp2_with fail
        go_ret2
        exact ⟨by rw [HF.out]; rfl, by rw [HB.out]; exact bel_drewN hbe _⟩
      · have hLz : ((n : Int) == 102) = false := beq_false_of_ne (by omega)
        have HN : Hid ((0 < 5 → n ≠ 98) ∧ (1 < 5 → n ≠ 116) ∧ (2 < 5 → n ≠ 110) ∧ (3 < 5 → n ≠ 118) ∧ (4 < 5 → n ≠ 102) ∧ (5 < 5 → n ≠ 114) ∧ (6 < 5 → n ≠ 101) ∧ (7 < 5 → n ≠ 100)) := Lib.hid (by
          have := hI.out
          refine ⟨?_, ?_, ?_, ?_, ?_, ?_, ?_, ?_⟩ <;> omega)
        clear hI hL hci
        go_wp2_with fail
        go_quiet (fail)
        go_wp2_with fail
        go_roundg 3
        case measure => omega
        case rel => exact ⟨5, by omega, rfl, hblk, bel_drewN hbe _, HN⟩
    · have hci := blk_cell hblk 5
      simp at hci
      have hlj : ((⟨#[98, 116, 110, 118, 102, 114, 101, 100]⟩ : ByteArray)[5]'(by decide)).toNat = 114 := rfl
      by_cases hL : n = 114
      · have HF : Hid (namedV pos n r k = .tuple #[.int .i64 13, .int .i64 ((pos : Int) + 1)]) := Lib.hid (by rw [hL]; rfl)
        rw [hL] at hn
        clear hI hblk
        go_wp2_with fail
        go_quiet (fail)
        go_wp2_with fail
        go_ret2
        exact ⟨by rw [HF.out]; rfl, by rw [HB.out]; exact bel_drewN hbe _⟩
      · have hLz : ((n : Int) == 114) = false := beq_false_of_ne (by omega)
        have HN : Hid ((0 < 6 → n ≠ 98) ∧ (1 < 6 → n ≠ 116) ∧ (2 < 6 → n ≠ 110) ∧ (3 < 6 → n ≠ 118) ∧ (4 < 6 → n ≠ 102) ∧ (5 < 6 → n ≠ 114) ∧ (6 < 6 → n ≠ 101) ∧ (7 < 6 → n ≠ 100)) := Lib.hid (by
          have := hI.out
          refine ⟨?_, ?_, ?_, ?_, ?_, ?_, ?_, ?_⟩ <;> omega)
        clear hI hL hci
        go_wp2_with fail
        go_quiet (fail)
        go_wp2_with fail
        go_roundg 2
        case measure => omega
        case rel => exact ⟨6, by omega, rfl, hblk, bel_drewN hbe _, HN⟩
    · have hci := blk_cell hblk 6
      simp at hci
      have hlj : ((⟨#[98, 116, 110, 118, 102, 114, 101, 100]⟩ : ByteArray)[6]'(by decide)).toNat = 101 := rfl
      by_cases hL : n = 101
      · have HF : Hid (namedV pos n r k = .tuple #[.int .i64 27, .int .i64 ((pos : Int) + 1)]) := Lib.hid (by rw [hL]; rfl)
        rw [hL] at hn
        clear hI hblk
        go_wp2_with fail
        go_quiet (fail)
        go_wp2_with fail
        go_ret2
        exact ⟨by rw [HF.out]; rfl, by rw [HB.out]; exact bel_drewN hbe _⟩
      · have hLz : ((n : Int) == 101) = false := beq_false_of_ne (by omega)
        have HN : Hid ((0 < 7 → n ≠ 98) ∧ (1 < 7 → n ≠ 116) ∧ (2 < 7 → n ≠ 110) ∧ (3 < 7 → n ≠ 118) ∧ (4 < 7 → n ≠ 102) ∧ (5 < 7 → n ≠ 114) ∧ (6 < 7 → n ≠ 101) ∧ (7 < 7 → n ≠ 100)) := Lib.hid (by
          have := hI.out
          refine ⟨?_, ?_, ?_, ?_, ?_, ?_, ?_, ?_⟩ <;> omega)
        clear hI hL hci
        go_wp2_with fail
        go_quiet (fail)
        go_wp2_with fail
        go_roundg 1
        case measure => omega
        case rel => exact ⟨7, by omega, rfl, hblk, bel_drewN hbe _, HN⟩
    · have hci := blk_cell hblk 7
      simp at hci
      have hlj : ((⟨#[98, 116, 110, 118, 102, 114, 101, 100]⟩ : ByteArray)[7]'(by decide)).toNat = 100 := rfl
      by_cases hL : n = 100
      · have HF : Hid (namedV pos n r k = .tuple #[.int .i64 127, .int .i64 ((pos : Int) + 1)]) := Lib.hid (by rw [hL]; rfl)
        rw [hL] at hn
        clear hI hblk
        go_wp2_with fail
        go_quiet (fail)
        go_wp2_with fail
        go_ret2
        exact ⟨by rw [HF.out]; rfl, by rw [HB.out]; exact bel_drewN hbe _⟩
      · have hLz : ((n : Int) == 100) = false := beq_false_of_ne (by omega)
        have HN : Hid ((0 < 8 → n ≠ 98) ∧ (1 < 8 → n ≠ 116) ∧ (2 < 8 → n ≠ 110) ∧ (3 < 8 → n ≠ 118) ∧ (4 < 8 → n ≠ 102) ∧ (5 < 8 → n ≠ 114) ∧ (6 < 8 → n ≠ 101) ∧ (7 < 8 → n ≠ 100)) := Lib.hid (by
          have := hI.out
          refine ⟨?_, ?_, ?_, ?_, ?_, ?_, ?_, ?_⟩ <;> omega)
        clear hI hL hci
        go_wp2_with fail
        go_quiet (fail)
        go_wp2_with fail
        go_roundg 0
        case measure => omega
        case rel => exact ⟨8, by omega, rfl, hblk, bel_drewN hbe _, HN⟩
    · have hU : unescF n = if n = 115 then some 32 else none := by
        have := hI.out
        exact named_fin n hn256 (this.1 (by omega)) (this.2.1 (by omega)) (this.2.2.1 (by omega)) (this.2.2.2.1 (by omega)) (this.2.2.2.2.1 (by omega)) (this.2.2.2.2.2.1 (by omega)) (this.2.2.2.2.2.2.1 (by omega)) (this.2.2.2.2.2.2.2 (by omega))
      clear hI hblk
      by_cases h115 : n = 115
      · have HF : Hid (namedV pos n r k = .tuple #[.int .i64 32, .int .i64 ((pos : Int) + 1)]) := Lib.hid (by rw [h115]; rfl)
        rw [h115] at hn
        clear hU
        go_wp2_with fail
        go_ret2
        exact ⟨by rw [HF.out]; rfl, by rw [HB.out]; exact hbe⟩
      · have hz : ((n : Int) == 115) = false := beq_false_of_ne (by omega)
        rw [if_neg h115] at hU
        have HBE := Lib.hid hbe
        cases hbad : badD (r, k) with
        | true =>
          have HF : Hid (namedV pos n r k = .tuple #[.int .i64 (-1), .int .i64 pos]) := Lib.hid (by unfold namedV; rw [hU, hbad]; rfl)
          have HBAD := Lib.hid hbad
          clear hU h115 hbad hbe
          go_wp2_with fail
          refine (HFR.out _).mono ?_
          rintro e w2 ⟨g, off, m, cap, rfl, hm1, hm2, hm3, c0, c1, c2, c3, hb2⟩
          rw [HBAD.out] at c3
          have hsz := hb2.size
          have HB2 := Lib.hid (HBE.out.trans (hb2.mono (by have := HBE.out.size; have := HB.out; omega)))
          clear hb2
          go_wp2_with fail
          go_ret2
          exact ⟨by rw [HF.out]; rfl, by rw [HB.out]; exact HB2.out.alloc (by have := HBE.out.size; have := HB.out; omega) _⟩
        | false =>
          have HF : Hid (namedV pos n r k = .tuple #[.int .i64 r, .int .i64 ((pos : Int) + (k : Int))]) := Lib.hid (by unfold namedV; rw [hU, hbad]; rfl)
          have HBAD := Lib.hid hbad
          clear hU h115 hbad hbe
          go_wp2_with fail
          refine (HFR.out _).mono ?_
          rintro e w2 ⟨g, off, m, cap, rfl, hm1, hm2, hm3, c0, c1, c2, c3, hb2⟩
          rw [HBAD.out] at c3
          have hsz := hb2.size
          have HB2 := Lib.hid (HBE.out.trans (hb2.mono (by have := HBE.out.size; have := HB.out; omega)))
          clear hb2
          have hw : IntKind.i64.wrap (r : Int) = (r : Int) := IntWalk.i64_in _ (by omega)
          go_wp2_with fail
          go_quiet (fail)
          go_wp2_with fail
          go_ret2
          exact ⟨by rw [HF.out]; rfl, by rw [HB.out]; exact bel_drewN (HB2.out.alloc (by have := HBE.out.size; have := HB.out; omega) _) _⟩

/-- What the document's control answers. -/
def ctrlV (c : UInt8) : Int := match ctrl c with
  | some v => (v : Int)
  | none => -1

set_option maxHeartbeats 1600000 in
set_option maxRecDepth 100000 in
theorem rcontrol_any (c : UInt8) (w : World) : Calls Tryd.prog 77 #[.int .u8 c.toNat] w fun e w' => e = .returned (.int .i64 (ctrlV c)) ∧ w' = w := by
  obtain ⟨n, hn⟩ : ∃ n, c.toNat = n := ⟨_, rfl⟩
  have hn256 : n < 256 := by rw [← hn]; exact c.toNat_lt
  have hctl : ctrl c = if 97 ≤ n ∧ n ≤ 122 then some (n - 96) else if 64 ≤ n ∧ n ≤ 95 then some (n - 64) else none := by unfold ctrl; rw [hn]
  rw [hn]
  clear hn
  by_cases h1 : 97 ≤ n ∧ n ≤ 122
  · obtain ⟨m, hm⟩ : ∃ m, n - 97 = m := ⟨_, rfl⟩
    have HF : Hid (ctrlV c = (m : Int) + 1) := Lib.hid (by unfold ctrlV; rw [hctl, if_pos h1]; show ((n - 96 : Nat) : Int) = _; omega)
    obtain ⟨h1, h2⟩ := h1
    have hm25 : m ≤ 25 := by omega
    have hw : IntKind.u8.wrap ((n : Int) - 97) = (m : Int) := by rw [show (n : Int) - 97 = (m : Int) by omega]; exact IntWalk.u8_in _ (by omega)
    have hw2 : IntKind.i64.wrap (m : Int) = (m : Int) := IntWalk.i64_in _ (by omega)
    clear hctl hm
    go_enter Tryd.func77, Tryd.ntmps77
    go_wp2_with fail
    go_ret
    exact ⟨by rw [HF.out]; rfl, rfl⟩
  · by_cases h2 : 64 ≤ n ∧ n ≤ 95
    · obtain ⟨m, hm⟩ : ∃ m, n - 64 = m := ⟨_, rfl⟩
      have HF : Hid (ctrlV c = (m : Int)) := Lib.hid (by unfold ctrlV; rw [hctl, if_neg h1, if_pos h2]; show ((n - 64 : Nat) : Int) = _; omega)
      obtain ⟨h2, h3⟩ := h2
      have hm31 : m ≤ 31 := by omega
      have h97 : n < 97 := by omega
      have hw : IntKind.u8.wrap ((n : Int) - 64) = (m : Int) := by rw [show (n : Int) - 64 = (m : Int) by omega]; exact IntWalk.u8_in _ (by omega)
      have hw2 : IntKind.i64.wrap (m : Int) = (m : Int) := IntWalk.i64_in _ (by omega)
      clear hctl hm h1
      go_enter Tryd.func77, Tryd.ntmps77
      go_wp2_with fail
      go_ret
      exact ⟨by rw [HF.out]; rfl, rfl⟩
    · have HF : Hid (ctrlV c = -1) := Lib.hid (by unfold ctrlV; rw [hctl, if_neg h1, if_neg h2])
      have h3 : n < 64 ∨ (95 < n ∧ n < 97) ∨ 122 < n := by omega
      clear hctl h1 h2
      rcases h3 with h3 | ⟨h3, h4⟩ | h3
      all_goals
        go_enter Tryd.func77, Tryd.ntmps77
        go_wp2_with fail
        go_ret
        exact ⟨by rw [HF.out]; rfl, rfl⟩
end Go.Proofs.YtflbcijmfcmilaaDoor
