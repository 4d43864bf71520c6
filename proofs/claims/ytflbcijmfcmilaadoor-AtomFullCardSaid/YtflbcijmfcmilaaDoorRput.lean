/- The document's Put. -/
import Derived.Test.YtflbcijmfcmilaaDoorName
namespace Go.Proofs.YtflbcijmfcmilaaDoor
open Go.RowKit

theorem Tryd.info9 : (Tryd.prog.info? 9).map (fun i => (i.zero, i.size, i.bytes)) = some (some (.string ByteArray.empty), 1, 16) := by kernel_rfl

/-- What Put answers and leaves. -/
def putN (L : List ByteArray) (s : ByteArray) : (Nat × Nat) × List ByteArray :=
  if rightL s.data.toList then (match placeL L s with | some i => ((i + 1, 0), L) | none => if 4096 ≤ L.length then ((0, 8), L) else ((L.length + 1, 0), L ++ [s])) else ((0, 20), L)

set_option maxHeartbeats 1600000 in
set_option maxRecDepth 100000 in
theorem rput_any (r : Nat) (sv : Value) (L : List ByteArray) (hL : L.length ≤ 1000000) (s : ByteArray) (hs : s.size ≤ maxLen) (w : World) (h : Rt w r sv L) :
    Calls Tryd.prog 32 #[.pointer (some ⟨r, 0, none⟩), .string s] w fun e w' => e = .returned (.tuple #[.int .i64 (putN L s).1.1, .int .i64 (putN L s).1.2]) ∧
      ∃ sv', Rt w' r sv' (putN L s).2 ∧ Fr (fun k => k = r ∨ sv.ownBlock = some k) w w' ∧ ∀ k, sv'.ownBlock = some k → sv.ownBlock = some k ∨ w.heap.size ≤ k := by
  obtain ⟨i0, hinf, hz0, hz1, hz2⟩ := info_parts Tryd.info9
  have HRC := Lib.hid (rright_any s w hs)
  have H := Lib.hid h
  have hbf : ∀ w', Below w.heap.size w w' → Fr (fun k => k = r ∨ sv.ownBlock = some k) w w' := fun w' hb => ⟨hb.os, hb.tape, hb.output, hb.size, fun k hk _ => hb.block k hk⟩
  cases hr : rightL s.data.toList with
  | false =>
    have HR : Hid (rightN s.data.toList = 20) := Lib.hid (by unfold rightN; rw [hr]; rfl)
    have HF : Hid (putN L s = ((0, 20), L)) := Lib.hid (by unfold putN; rw [hr]; rfl)
    clear hr h
    go_enter Tryd.func32, Tryd.ntmps32
    go_wp2_with fail
    refine (HRC.out).mono ?_
    rintro e w1 ⟨rfl, hb1⟩
    rw [HR.out]
    go_wp2_with fail
    go_ret2
    rw [HF.out]
    exact ⟨rfl, sv, H.out.below hb1, hbf _ hb1, fun k hk => .inl hk⟩
  | true =>
    have HR : Hid (rightN s.data.toList = 0) := Lib.hid (by unfold rightN; rw [hr]; rfl)
    have HF : Hid (putN L s = (match placeL L s with | some i => ((i + 1, 0), L) | none => if 4096 ≤ L.length then ((0, 8), L) else ((L.length + 1, 0), L ++ [s]))) := Lib.hid (by unfold putN; rw [hr]; rfl)
    clear hr h
    go_enter Tryd.func32, Tryd.ntmps32
    go_wp2_with fail
    refine (HRC.out).mono ?_
    rintro e w1 ⟨rfl, hb1⟩
    rw [HR.out]
    have H1 := Lib.hid (place_any r sv L hL s w1 (H.out.below hb1))
    go_wp2_with fail
    refine (H1.out).mono ?_
    rintro e w2 ⟨rfl, rfl⟩
    have h2 := H.out.below hb1
    cases hp : placeL L s with
    | some i =>
      have HP : Hid (placeV L s = (i : Int)) := Lib.hid (by unfold placeV; rw [hp])
      have hi : i < 1000000 := by
        unfold placeL at hp
        rw [List.findIdx?_eq_some_iff_getElem] at hp
        obtain ⟨h1, _⟩ := hp
        omega
      rw [hp] at HF
      clear hp
      rw [HP.out]
      go_wp2_with fail
      go_ret2
      rw [HF.out]
      exact ⟨rfl, sv, h2, hbf _ hb1, fun k hk => .inl hk⟩
    | none =>
      have HP : Hid (placeV L s = -1) := Lib.hid (by unfold placeV; rw [hp])
      rw [hp] at HF
      clear hp
      rw [HP.out]
      have c0 := blk_cell h2.blk 0
      simp at c0
      have hs2 := h2.sl
      obtain ⟨ao, cap, rfl, hcap, hmax⟩ := hs2.shape
      by_cases h4 : 4096 ≤ L.length
      · have HG : Hid (putN L s = ((0, 8), L)) := Lib.hid (by rw [HF.out]; exact if_pos h4)
        clear HF
        go_wp2_with fail
        go_ret2
        rw [HG.out]
        exact ⟨rfl, _, h2, hbf _ hb1, fun k hk => .inl hk⟩
      · have HG : Hid (putN L s = ((L.length + 1, 0), L ++ [s])) := Lib.hid (by rw [HF.out]; exact if_neg h4)
        clear HF
        have H2 := Lib.hid h2
        go_wp2_with (at_builtin; refine wpList_append_sl rfl (.tmp 29) (.tmp 31) 46 rfl 9 i0 (.string ByteArray.empty) 1 16 Tryd.underlying46 hinf hz0 hz1 hz2 rfl (by decide) _ L.length (strs L) rfl (hs2.alloc _) ⟨w2.heap.size, 0, none⟩ 1 1 [.string s] rfl rfl (cell_one_new _ _ _) ?c2 ?b1 ?b2 ?next)
        case c2 =>
          intro u hu
          obtain rfl := List.mem_singleton.1 hu
          rfl
        case b1 => unfold maxLen; omega
        case b2 => omega
        case next =>
          intro v' w3 hs3 hf3 hv3
          obtain ⟨ao', cap', rfl, _, _⟩ := hs3.shape
          have hF : Fr (fun q => (Value.slice ao L.length cap).ownBlock = some q) w2 w3 := ((Fr.refl _ w2).alloc (.cells #[.string s] 9)).trans hf3
          have hl3 := hF.at H2.out.blk (fun e => H2.out.sl.ne H2.out.blk (by decide) _ e rfl)
          have c3 := blk_cell hl3 0
          have f3 := blk_free hl3 0
          simp at c3
          clear c0
          go_wp2_with fail
          go_ret2
          rw [HG.out]
          have hf4 := (hF.mono (G := fun k => k = r ∨ (Value.slice ao L.length cap).ownBlock = some k) fun q hq => Or.inr hq).setCell (p := ⟨r, 0, none⟩) (.inl (.inl rfl)) (.slice ao' (L.length + 1) cap')
          refine ⟨rfl, _, ⟨blk_set hl3 0 (.slice ao' (L.length + 1) cap'), ?_⟩, (hbf _ hb1).trans hf4, fun k hk => ?_⟩
          · have := hs3.set_other (a := ⟨r, 0, none⟩) (.slice ao' (L.length + 1) cap') (hs3.ne hl3 (by decide))
            simpa [strs] using this
          · rcases hv3 with e | e
            · exact .inl (e ▸ hk)
            · rw [e] at hk
              simp at hk
              have := hb1.size
              exact .inr (by omega)
end Go.Proofs.YtflbcijmfcmilaaDoor
