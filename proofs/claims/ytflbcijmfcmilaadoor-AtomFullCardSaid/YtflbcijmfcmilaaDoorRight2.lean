/- The document's Right. -/
import Derived.Test.YtflbcijmfcmilaaDoorRight
namespace Go.Proofs.YtflbcijmfcmilaaDoor
open Go.RowKit
open Go.Lib (decodeL validD)

theorem runesAt_len : ∀ (l : List (Nat × Nat)) (p : Nat), (runesAt p l).length = l.length
  | [], _ => rfl
  | x :: r, p => by simp [runesAt, runesAt_len r]

theorem runesAt_bad : ∀ (l : List (Nat × Nat)) (p : Nat), (runesAt p l).any badX = l.any badD
  | [], _ => rfl
  | x :: r, p => by
    simp only [runesAt, List.any_cons, runesAt_bad r]
    rfl

theorem flatg {α : Type} (f : α → List Value) (hf : ∀ x, (f x).length = 4) (L : List α) (j : Nat) (hj : j < L.length) (i : Nat) (hi : i < 4) : (L.flatMap f)[j * 4 + i]? = (f L[j])[i]? := by
  have h1 : L = L.take j ++ L[j] :: L.drop (j + 1) := by rw [← List.drop_eq_getElem_cons hj, List.take_append_drop]
  have h2 := flat4 f hf (L.take j) L[j] (L.drop (j + 1)) i hi
  rw [← h1, List.length_take, Nat.min_eq_left (by omega)] at h2
  exact h2

set_option maxHeartbeats 3200000 in
set_option maxRecDepth 100000 in
theorem rright_any (s : ByteArray) (w : World) (hs : s.size ≤ maxLen) : Calls Tryd.prog 14 #[.string s] w fun e w' => e = .returned (.int .i64 (rightN s.data.toList)) ∧ Below w.heap.size w w' := by
  have hl : s.data.toList.length = s.size := by simp
  by_cases h : s.size ≤ 255
  · obtain ⟨L, hL⟩ : ∃ L, runesAt 0 (runes s.data.toList) = L := ⟨_, rfl⟩
    obtain ⟨n, hn⟩ : ∃ n, (runes s.data.toList).length = n := ⟨_, rfl⟩
    have hra := runes_any s w hs (by omega)
    rw [hL, hn] at hra
    have hLn : L.length = n := by rw [← hL, runesAt_len, hn]
    have hn255 : n ≤ 255 := by have := runes_len_le s.data.toList; omega
    have HF : Hid (rightN s.data.toList = if L.any badX then 20 else 0) := Lib.hid (by
      unfold rightN rightL
      rw [decide_eq_true (by omega : s.data.toList.length ≤ 255), validD_runes, ← hL, runesAt_bad]
      cases (runes s.data.toList).any badD <;> rfl)
    have HR := Lib.hid hra
    clear hra hL hn hl
    go_enter Tryd.func14, Tryd.ntmps14
    go_wp2_with fail
    refine (HR.out).mono ?_
    rintro e w1 ⟨v, rfl, hsl, hb1, hob⟩
    obtain ⟨ao, cap, rfl, hc1, hc2⟩ := hsl.shape
    have HOB := Lib.hid hob
    clear hob
    go_wp2_with fail
    go_loopg [11] n (fun g s11 wr => ∃ j : Nat, j + g = n ∧ s11 = .int .i64 j ∧ Below w.heap.size w wr ∧ Below w1.heap.size w1 wr ∧ Hid ((L.take j).any badX = false))
    case atStart => exact ⟨0, by omega, rfl, hb1, Below.refl _ _, Lib.hid rfl⟩
    case round =>
      obtain ⟨j, hj, rfl, hb, hbw, hI⟩ := hrel
      cases gk with
      | zero =>
        obtain rfl : j = n := by omega
        have HG : Hid (rightN s.data.toList = 0) := Lib.hid (by
          rw [HF.out]
          have := hI.out
          rw [List.take_of_length_le (by omega)] at this
          rw [this]
          rfl)
        clear hI
        go_wp2_with fail
        go_ret
        exact ⟨by rw [HG.out]; rfl, hb⟩
      | succ g =>
        have hjn : j < L.length := by omega
        obtain ⟨x, hx⟩ : ∃ x, L[j]'hjn = x := ⟨_, rfl⟩
        have htj : L.take (j + 1) = L.take j ++ [x] := by rw [List.take_succ_eq_append_getElem hjn, hx]
        have hsl2 : Sl wr 66 4 (.slice ao n cap) n (L.flatMap fun x => cell4 (badX x) x) := hsl.keep fun k hk => hbw.block k (hsl.lt k hk)
        obtain ⟨g0, off, cap', cur, hv, _⟩ := hsl2.blk (by omega)
        simp at hv
        obtain ⟨rfl, rfl⟩ := hv
        have hget := flatg (fun x => cell4 (badX x) x) (fun _ => rfl) L j hjn
        rw [hx] at hget
        have c0 := hsl2.cell (j * 4) (by omega)
        have c1 := hsl2.cell (j * 4 + 1) (by omega)
        have c2 := hsl2.cell (j * 4 + 2) (by omega)
        have c3 := hsl2.cell (j * 4 + 3) (by omega)
        rw [hget 1 (by omega)] at c1
        rw [hget 2 (by omega)] at c2
        rw [hget 3 (by omega)] at c3
        have h0 := hget 0 (by omega)
        rw [Nat.add_zero] at h0
        rw [h0] at c0
        obtain ⟨b, hb'⟩ : ∃ b, badX x = b := ⟨_, rfl⟩
        replace c0 : wr.cell? ⟨g0, off + j * 4, none⟩ = some (.int .i64 x.1) := c0
        replace c1 : wr.cell? ⟨g0, off + j * 4 + 1, none⟩ = some (.int .i64 x.2.1) := c1
        replace c2 : wr.cell? ⟨g0, off + j * 4 + 2, none⟩ = some (.int .i32 x.2.2) := c2
        replace c3 : wr.cell? ⟨g0, off + j * 4 + 3, none⟩ = some (.bool (badX x)) := c3
        rw [hb'] at c3
        have HT := Lib.hid htj
        have HX := Lib.hid hx
        have HBX := Lib.hid hb'
        have hsz := hb.size
        have hsz1 := hbw.size
        clear hget h0 htj hx hb' hsl2
        cases b with
        | true =>
          have HG : Hid (rightN s.data.toList = 20) := Lib.hid (by
            rw [HF.out, if_pos]
            rw [List.any_eq_true]
            exact ⟨x, by rw [← HX.out]; exact List.getElem_mem hjn, HBX.out⟩)
          go_wp2_with fail
          go_ret
          exact ⟨by rw [HG.out]; rfl, hb.alloc (by omega) _⟩
        | false =>
          go_wp2_with fail
          go_roundg g
          case measure => omega
          case rel =>
            refine ⟨j + 1, by omega, by go_num, hb.alloc (by omega) _, hbw.alloc (by omega) _, Lib.hid ?_⟩
            rw [HT.out, List.any_append, hI.out, List.any_cons, HBX.out]
            rfl
  · have HF : Hid (rightN s.data.toList = 20) := Lib.hid (by
      unfold rightN rightL
      rw [decide_eq_false (by omega : ¬ s.data.toList.length ≤ 255)]
      rfl)
    clear hl
    go_enter Tryd.func14, Tryd.ntmps14
    go_wp2_with fail
    go_ret
    exact ⟨by rw [HF.out]; rfl, Below.refl _ _⟩
end Go.Proofs.YtflbcijmfcmilaaDoor
