/- The document's table: Find. -/
import Derived.Test.YtflbcijmfcmilaaDoorRtab
namespace Go.Proofs.YtflbcijmfcmilaaDoor
open Go.RowKit

theorem Rt.below {w w' : World} {r : Nat} {sv : Value} {L : List ByteArray} (h : Rt w r sv L) (hb : Below w.heap.size w w') : Rt w' r sv L :=
  ⟨(hb.block r (blk_lt h.blk)).trans h.blk, h.sl.keep fun k hk => hb.block k (h.sl.lt k hk)⟩

set_option maxHeartbeats 800000 in
theorem rfind_any (r : Nat) (sv : Value) (L : List ByteArray) (hL : L.length ≤ 1000000) (s : ByteArray) (hs : s.size ≤ maxLen) (w : World) (h : Rt w r sv L) :
    Calls Tryd.prog 31 #[.pointer (some ⟨r, 0, none⟩), .string s] w fun e w' => e = .returned (.tuple #[.int .i64 (findN L s).1, .int .i64 (findN L s).2]) ∧ Below w.heap.size w w' := by
  have HRC := Lib.hid (rright_any s w hs)
  have H := Lib.hid h
  cases hr : rightL s.data.toList with
  | false =>
    have HR : Hid (rightN s.data.toList = 20) := Lib.hid (by unfold rightN; rw [hr]; rfl)
    have HF : Hid (findN L s = (0, 20)) := Lib.hid (by unfold findN; rw [hr]; rfl)
    clear hr h
    go_enter Tryd.func31, Tryd.ntmps31
    go_wp2_with fail
    refine (HRC.out).mono ?_
    rintro e w1 ⟨rfl, hb1⟩
    rw [HR.out]
    go_wp2_with fail
    go_ret2
    exact ⟨by rw [HF.out]; rfl, hb1⟩
  | true =>
    have HR : Hid (rightN s.data.toList = 0) := Lib.hid (by unfold rightN; rw [hr]; rfl)
    have HF : Hid (findN L s = (match placeL L s with | some i => (i + 1, 0) | none => (0, 5))) := Lib.hid (by unfold findN; rw [hr]; rfl)
    clear hr h
    go_enter Tryd.func31, Tryd.ntmps31
    go_wp2_with fail
    refine (HRC.out).mono ?_
    rintro e w1 ⟨rfl, hb1⟩
    rw [HR.out]
    have H1 := Lib.hid (place_any r sv L hL s w1 (H.out.below hb1))
    go_wp2_with fail
    refine (H1.out).mono ?_
    rintro e w2 ⟨rfl, rfl⟩
    cases hp : placeL L s with
    | none =>
      have HP : Hid (placeV L s = -1) := Lib.hid (by unfold placeV; rw [hp])
      rw [hp] at HF
      clear hp
      rw [HP.out]
      go_wp2_with fail
      go_ret2
      exact ⟨by rw [HF.out]; rfl, hb1⟩
    | some i =>
      have HP : Hid (placeV L s = (i : Int)) := Lib.hid (by unfold placeV; rw [hp])
      have hi : i < 1000000 := by
        unfold placeL at hp
        rw [List.findIdx?_eq_some_iff_getElem] at hp
        obtain ⟨h1, _⟩ := hp
        omega
      rw [hp] at HF
      clear hp
      rw [HP.out]
      go_wp2_with fail
      go_ret2
      exact ⟨by rw [HF.out]; rfl, hb1⟩
end Go.Proofs.YtflbcijmfcmilaaDoor
