/- awake: the first example. -/
import Derived.Test.YtkhjdcnlpablkaaDoorSam2
import Derived.Test.YtkhjdcnlpablkaaDoorGood
import Derived.Test.YtkhjdcnlpablkaaDoorInj
import Derived.Test.YtkhjdcnlpablkaaDoorDecode
namespace Go.Proofs.YtkhjdcnlpablkaaDoor
open Go.RowKit
open Go.Lib (byteCells)

/-- What right cells are written as is read as the cells. -/
theorem enc_dec {t : List Ce} (h : rightT t = (0, 0)) (hk : ∀ c ∈ t, c.i64) : decD (encV t) = .ok t ∧ (encV t).length ≤ 1048562 := by
  obtain ⟨h1, h2, h3⟩ := termOf_ok h
  have hs : (termOf t).sz ≤ 1024 := by unfold T.sz; rw [h1]; exact h3
  have hz := enc_size h2 hs
  have hd := dec_enc h2 (fun c hc => hk c (by rw [h1] at hc; exact hc)) hs [] (by simp; omega)
  rw [if_pos rfl, List.append_nil, h1] at hd
  rw [encV_ok h]
  exact ⟨hd, by simp; omega⟩

def tA : T := .tup ⟨5, 2, ⟨#[]⟩⟩ [.leaf ⟨2, 0, ⟨#[111, 107]⟩⟩, .leaf ⟨1, 5, ⟨#[]⟩⟩]
def cA : List Ce := [⟨5, 2, ⟨#[]⟩⟩, ⟨2, 0, ⟨#[111, 107]⟩⟩, ⟨1, 5, ⟨#[]⟩⟩]
theorem tA_cells : tA.cells = cA := by simp [tA, cA, T.cells, T.cellsL]
theorem tA_wf : tA.wf := by
  refine ⟨E_plain (by omega) (by omega) (by omega) (by omega) (by omega) (by omega) (by omega), rfl, rfl, ⟨E_text2 (by decide) (by decide), by decide, by decide⟩, ⟨E_plain (by omega) (by omega) (by omega) (by omega) (by omega) (by omega) (by omega), by decide, by decide⟩, trivial⟩
theorem cA_right : rightT cA = (0, 0) := by
  rw [← tA_cells]
  exact right_of tA_wf (by unfold T.sz; rw [tA_cells]; decide)
theorem cA_enc : encV cA = [131, 104, 2, 119, 2, 111, 107, 97, 5] := by
  obtain ⟨h1, h2, h3⟩ := termOf_ok cA_right
  have : termOf cA = tA := cells_inj h2 tA_wf (by rw [h1, tA_cells])
  rw [encV_ok cA_right, this]
  unfold tA
  rw [enc_tup, encL_cons, encL_cons, encL_nil, enc_leaf, enc_leaf]
  decide
theorem cA_ok : OkCes cA := ⟨fun c hc => by
    simp only [cA, List.mem_cons, List.not_mem_nil, or_false] at hc
    rcases hc with rfl | rfl | rfl <;> exact ⟨by decide, by decide⟩, fun c hc => by
    simp only [cA, List.mem_cons, List.not_mem_nil, or_false] at hc
    rcases hc with rfl | rfl | rfl <;> decide⟩
theorem cA_dec : decD [131, 104, 2, 119, 2, 111, 107, 97, 5] = .ok cA := by
  have := (enc_dec cA_right cA_ok.num).1
  rwa [cA_enc] at this

theorem Rd.new (w : World) (size : Nat) (e : TypeId) (cs : List Value) (n : Nat) (hn : cs.length = n * size) (hm : n ≤ maxLen) : Rd (w.alloc (.cells cs.toArray e)) size (.slice (some ⟨w.heap.size, 0, none⟩) n n) n cs := by
  have h : Sl (w.alloc (.cells cs.toArray e)) e size (.slice (some ⟨w.heap.size, 0, none⟩) n n) n cs :=
    ⟨_, _, rfl, by omega, Nat.le_refl _, hm, .inr ⟨w.heap.size, 0, _, rfl, heap_alloc_new w _, by rw [List.size_toArray]; omega, by rw [List.drop_zero]; exact List.take_of_length_le (by rw [List.toList_toArray]; omega)⟩⟩
  exact h.rd

set_option maxHeartbeats 1600000 in
set_option maxRecDepth 100000 in
theorem awake_any (w : World) (hT : ∀ W, Below w.heap.size w W → Lib.Utf8Tabs 0 1 W) :
    Calls Tryd.prog 15 #[] w fun e w' => e = .returned (.bool true) ∧ Below w.heap.size w w' := by
  have HT := Lib.hid hT
  clear hT
  have hA := Rd.new w 3 60 (cvs cA) 3 (by rw [cvs_len]; rfl) (by unfold maxLen; omega)
  have HA := Lib.hid hA
  have hb0 : Below w.heap.size w (w.alloc (.cells (cvs cA).toArray 60)) := (Below.refl _ _).alloc (Nat.le_refl _) _
  have HB0 := Lib.hid hb0
  have h16 := Encode_any cA _ cA_ok _ HA.out (HT.out _ HB0.out)
  rw [cA_right, cA_enc] at h16
  have H16 := Lib.hid h16
  have HD0 : Hid ((w.alloc (.cells (cvs cA).toArray 60)).heap.size = w.heap.size + 1) := Lib.hid (by simp)
  clear hA hb0 h16
  go_enter Tryd.func15, Tryd.ntmps15
  go_wp2_with fail
  refine (H16.out).mono ?_
  rintro e w1 ⟨v1, rfl, hb1, hbe1⟩
  have hz0 := HD0.out
  have hbe : Below w.heap.size w w1 := HB0.out.trans (hbe1.mono (by omega))
  have h10 := Decode_any _ v1 w1 hb1.sl.rd (fun W hW => HT.out W (hbe.trans (hW.mono hbe.size)))
  have hA1 := HA.out.below (Nat.le_refl _) hbe1
  have HB1 := Lib.hid hb1
  have HBE := Lib.hid hbe
  have HA1 := Lib.hid hA1
  have H10 := Lib.hid h10
  obtain ⟨ao1, cap1, rfl, _, _⟩ := hb1.shape
  clear hb1 hbe hbe1 h10 hA1 HA HB0 H16 hz0 HD0
  go_wp2_with fail
  refine (H10.out).mono ?_
  rintro e w2 ⟨hd, hbe2⟩
  obtain ⟨v2, rfl, hs2, _⟩ := hd.okE cA_dec
  have HB2 := Lib.hid (HB1.out.below hbe2)
  have HA2 := Lib.hid (HA1.out.below (Nat.le_refl _) hbe2)
  have HS2 := Lib.hid hs2
  have HBE2 := Lib.hid (HBE.out.trans (hbe2.mono HBE.out.size))
  have hN : Rd (w2.alloc (.cells (byteCells [131, 104, 2, 119, 2, 111, 107, 97, 5]).toArray 5)) 1 (.slice (some ⟨w2.heap.size, 0, none⟩) 9 9) 9 (byteCells [131, 104, 2, 119, 2, 111, 107, 97, 5]) := Rd.new w2 1 5 _ 9 rfl (by unfold maxLen; omega)
  have hb3 : Below w2.heap.size w2 (w2.alloc (.cells (byteCells [131, 104, 2, 119, 2, 111, 107, 97, 5]).toArray 5)) := (Below.refl _ _).alloc (Nat.le_refl _) _
  have h18 := bsame_any _ [131, 104, 2, 119, 2, 111, 107, 97, 5] _ _ _ (HB2.out.below hb3).sl.rd hN
  have HBE3 := Lib.hid (HBE2.out.trans (hb3.mono HBE2.out.size))
  have HA3 := Lib.hid (HA2.out.below (Nat.le_refl _) hb3)
  have HS3 := Lib.hid (HS2.out.rd.below (Nat.le_refl _) hb3)
  have H18 := Lib.hid h18
  clear h18 hN hb3 hs2 hbe2 hd HBE H10 HB1 HA1
  go_wp2_with fail
  refine (H18.out).mono ?_
  rintro e w3 ⟨b, rfl, hb, hbe3⟩
  obtain rfl : b = true := hb.2 (by trivial)
  have h12 := same_any cA cA _ _ w3 (HS3.out.below (Nat.le_refl _) hbe3) (HA3.out.below (Nat.le_refl _) hbe3)
  have H12 := Lib.hid h12
  have HBE4 := Lib.hid (HBE3.out.trans (hbe3.mono HBE3.out.size))
  clear h12 hbe3 hb HBE3 HA3 HS3 H18
  go_wp2_with fail
  refine (H12.out).mono ?_
  rintro e w4 ⟨b, rfl, hb, hbe4⟩
  obtain rfl : b = true := hb.2 (by trivial)
  have HBE5 := Lib.hid (HBE4.out.trans (hbe4.mono HBE4.out.size))
  clear hb hbe4 HBE4 H12
  go_wp2_with fail
  go_ret
  exact ⟨rfl, HBE5.out⟩
end Go.Proofs.YtkhjdcnlpablkaaDoor
