/- spelled: is a text right UTF-8? -/
import Derived.Test.YtkhjdcnlpablkaaDoorUtfR
namespace Go.Proofs.YtkhjdcnlpablkaaDoor
open Go.RowKit Go.Shelf
open Go.Lib (decodeL validD)

theorem validD_step {l : List UInt8} (hne : l ≠ []) : validD l = (!badD (decodeL l) && validD (l.drop (decodeL l).2)) := by
  rw [validD_runes, runes_step l hne, validD_runes]
  simp [List.any_cons, Bool.not_or]

theorem dgo (s : ByteArray) (pos : Nat) (h : pos < s.size) : Lib.decodeGo (s.extract pos s.size) = decodeL (s.data.toList.drop pos) := by
  have he : (s.extract pos s.size).data.toList = s.data.toList.drop pos := by
    simp only [ByteArray.data_extract, Array.toList_extract]
    exact List.take_of_length_le (by simp)
  have hx : s.extract pos s.size = ⟨(s.data.toList.drop pos).toArray⟩ := ByteArray.ext (Array.toList_inj.1 (by rw [he]))
  have hsz : (s.extract pos s.size).size = s.size - pos := by simp
  unfold Lib.decodeGo
  rw [hsz, if_neg (by omega), hx]
  rfl

set_option maxHeartbeats 1600000 in
set_option maxRecDepth 100000 in
theorem spelled_any (s : ByteArray) (_ : s.size ≤ maxLen) (w : World) (hT : Lib.Utf8Tabs 0 1 w) :
    Calls Tryd.prog 81 #[.string s] w fun e w' => e = .returned (.bool (validD s.data.toList)) ∧ Below w.heap.size w w' := by
  obtain ⟨B, hB⟩ : ∃ B, w.heap.size = B := ⟨_, rfl⟩
  have HB := Lib.hid hB
  have HT := Lib.hid hT
  clear hT
  go_enter Tryd.func81, Tryd.ntmps81
  go_wp2_with fail
  clear HB
  go_loopg [3, 4] s.size (fun g s3 s4 wr => ∃ pos : Nat, pos + g = s.size ∧ wr.heap[B]? = some (.stringIter s pos) ∧ Below B w wr ∧ Hid (validD s.data.toList = validD (s.data.toList.drop pos)))
  case atStart =>
    have hit := World.iter_heap w s 0
    rw [hB] at hit
    exact ⟨0, by omega, hit, (Below.refl _ _).alloc (by omega) _, Lib.hid rfl⟩
  case round =>
    obtain ⟨pos, hg, hit, hbe, hI⟩ := hrel
    have hsz := hbe.size
    have hBr : B < wr.heap.size := bld_lt hit
    cases gk with
    | zero =>
      obtain rfl : pos = s.size := by omega
      have hnx : ∀ ty, (Instr.next (.pointer (some ⟨B, 0, none⟩)) true ty).run Tryd.prog wr = _ := fun ty => Lib.run_next_end_at wr B s s.size ty hit (by omega)
      have HF : Hid (validD s.data.toList = true) := Lib.hid (by
        rw [hI.out, drop_end (Nat.le_refl _)]; rfl)
      clear hI
      go_wp2_with fail
      go_ret
      exact ⟨by rw [HF.out]; rfl, by rw [hB]; exact hbe⟩
    | succ g =>
      have hlt : pos < s.size := by omega
      obtain ⟨r, k, hd⟩ : ∃ r k, Utf8.decode s pos = (r, k) := ⟨_, _, rfl⟩
      have hk1 : 1 ≤ k := by have := Lib.width_pos s pos; rw [hd] at this; exact this
      have hne : s.data.toList.drop pos ≠ [] := by rw [drop_at hlt]; simp
      have hkl : pos + k ≤ s.size := by
        have := Lib.decodeL_le (s.data.toList.drop pos) hne
        rw [Lib.decodeL_drop, hd, List.length_drop] at this
        have hl : s.data.toList.length = s.size := by simp
        omega
      have hstep := validD_step hne
      rw [Lib.decodeL_drop, hd, List.drop_drop, ← hI.out] at hstep
      have HDEC : Hid (∀ w', Lib.Utf8Tabs 0 1 w' → Calls Tryd.prog 88 #[.string (s.extract pos s.size)] w' fun e w2 => e = .returned (.tuple #[.int .i32 r, .int .i64 k]) ∧ Below w'.heap.size w' w2) := Lib.hid fun w' h' => by
        have := Tryd.utf8_DecodeRuneInString (s.extract pos s.size) w' h'
        rw [dgo s pos hlt, Lib.decodeL_drop, hd] at this
        exact this
      have hnx : ∀ ty, (Instr.next (.pointer (some ⟨B, 0, none⟩)) true ty).run Tryd.prog wr = .ok (.tuple #[.bool true, .int .i64 pos, .int .i32 r]) (wr.iterAt B s (pos + k)) := fun ty => by
        have := Lib.run_next_any_at (P := Tryd.prog) wr B s pos ty hit hlt
        rw [this, hd]
      have hit2 := Lib.iterAt_heap wr B s pos (pos + k) hit
      have hB2 := Lib.below_iterAt hbe (k := B) (Nat.le_refl _) s (pos + k)
      have HST := Lib.hid hstep
      have hps : (pos : Int) ≤ (s.size : Int) := by omega
      generalize wr.iterAt B s (pos + k) = wi at hnx hit2 hB2
      clear hit hbe hI hd hstep hne
      by_cases hr : r = 65533
      · have hT2 : Lib.Utf8Tabs 0 1 wi := tabs_below HT.out (by omega) hB2
        have H := Lib.hid (HDEC.out wi hT2)
        clear hT2 HDEC
        subst hr
        go_wp2_with fail
        refine (H.out).mono ?_
        rintro e w2 ⟨rfl, hb2⟩
        by_cases hk : k = 1
        · subst hk
          have HF : Hid (validD s.data.toList = false) := Lib.hid (by rw [HST.out]; rfl)
          go_wp2_with fail
          go_ret
          exact ⟨by rw [HF.out]; rfl, by rw [hB]; exact hB2.trans (hb2.mono (by have := hB2.size; omega))⟩
        · have HF : Hid (validD s.data.toList = validD (s.data.toList.drop (pos + k))) := Lib.hid (by
            rw [HST.out, show badD (65533, k) = false by unfold badD; simpa using hk]; rfl)
          have hit3 := (hb2.block B (bld_lt hit2)).trans hit2
          have hB3 := hB2.trans (hb2.mono (by have := hB2.size; omega))
          clear hnx hit2 hB2 hb2
          go_wp2_with fail
          go_roundg (s.size - (pos + k))
          case measure => omega
          case rel => exact ⟨pos + k, by omega, hit3, hB3, HF⟩
      · have HF : Hid (validD s.data.toList = validD (s.data.toList.drop (pos + k))) := Lib.hid (by
          rw [HST.out, show badD (r, k) = false by unfold badD; simp [hr]]; rfl)
        have hrz : ((r : Int) == 65533) = false := by simp; omega
        clear hr
        go_wp2_with fail
        go_roundg (s.size - (pos + k))
        case measure => omega
        case rel => exact ⟨pos + k, by omega, hit2, hB2, HF⟩
end Go.Proofs.YtkhjdcnlpablkaaDoor
