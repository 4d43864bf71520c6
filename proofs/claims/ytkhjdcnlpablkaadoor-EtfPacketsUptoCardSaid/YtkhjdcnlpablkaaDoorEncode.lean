/- Encode, Size. -/
import Derived.Test.YtkhjdcnlpablkaaDoorCode2
namespace Go.Proofs.YtkhjdcnlpablkaaDoor
open Go.RowKit
open Go.Lib (byteCells strCells)

theorem scan_zero : ∀ (l : List Ce) (w i : Nat), (scanR w i l).1 = 0 → scanR w i l = (0, 0)
  | [], w, i, h => by
    simp only [scanR] at h ⊢
    split
    · rfl
    · rename_i hw; rw [if_neg hw] at h; simp at h
  | c :: r, w, i, h => by
    simp only [scanR] at h ⊢
    split
    · rename_i hE; rw [if_pos hE] at h; exact (hE h).elim
    · rename_i hE
      rw [if_neg hE] at h
      split
      · rename_i hw; rw [if_pos hw] at h; simp at h
      · rename_i hw; rw [if_neg hw] at h; exact scan_zero r _ _ h
theorem right_zero {l : List Ce} (h : (rightT l).1 = 0) : rightT l = (0, 0) := by
  unfold rightT at h ⊢
  split
  · rename_i h1; rw [if_pos h1] at h; simp at h
  · rename_i h1
    rw [if_neg h1] at h
    split
    · rename_i h2; rw [if_pos h2] at h; simp at h
    · rename_i h2; rw [if_neg h2] at h; exact scan_zero l _ _ h

open Classical in
/-- The term of right cells. -/
noncomputable def termOf (t : List Ce) : T := if h : rightT t = (0, 0) then Classical.choose (parse h) else .leaf consC
theorem termOf_ok {t : List Ce} (h : rightT t = (0, 0)) : (termOf t).cells = t ∧ (termOf t).wf ∧ t.length ≤ 1024 := by
  unfold termOf
  rw [dif_pos h]
  exact Classical.choose_spec (parse h)
open Classical in
/-- What Encode answers. -/
noncomputable def encV (t : List Ce) : List UInt8 := if rightT t = (0, 0) then 131 :: (termOf t).enc else []
theorem encV_ok {t : List Ce} (h : rightT t = (0, 0)) : encV t = 131 :: (termOf t).enc := by unfold encV; rw [if_pos h]
theorem encV_bad {t : List Ce} (h : ¬ (rightT t).1 = 0) : encV t = [] := by unfold encV; rw [if_neg (fun e => h (by rw [e]))]
theorem encV_len (t : List Ce) : (encV t).length ≤ 1100000 := by
  by_cases h : rightT t = (0, 0)
  · obtain ⟨h1, h2, h3⟩ := termOf_ok h
    have := (enc_len h2).1
    rw [encV_ok h, List.length_cons]
    unfold T.sz at this
    rw [h1] at this
    omega
  · unfold encV; rw [if_neg h]; simp

theorem Sl.new (w : World) (e : TypeId) (cs : List Value) (n : Nat) (hn : cs.length = n) (hm : n ≤ maxLen) : Sl (w.alloc (.cells cs.toArray e)) e 1 (.slice (some ⟨w.heap.size, 0, none⟩) n n) n cs :=
  ⟨_, _, rfl, by omega, Nat.le_refl _, hm, .inr ⟨w.heap.size, 0, _, rfl, heap_alloc_new w _, by rw [List.size_toArray]; omega, by rw [List.drop_zero, Nat.mul_one]; exact List.take_of_length_le (by rw [List.toList_toArray]; omega)⟩⟩

/-- Cells that came in: whole numbers of 64 bits, texts of a possible length. -/
structure OkCes (t : List Ce) : Prop where
  num : ∀ c ∈ t, -9223372036854775808 ≤ c.n ∧ c.n ≤ 9223372036854775807
  txt : ∀ c ∈ t, c.text.size ≤ maxLen

set_option maxHeartbeats 1600000 in
set_option maxRecDepth 100000 in
theorem Encode_any (t : List Ce) (tv : Value) (hk : OkCes t) (w : World) (hrd : Rd w 3 tv t.length (cvs t)) (hT : Lib.Utf8Tabs 0 1 w) :
    Calls Tryd.prog 16 #[tv] w fun e w' => ∃ v', e = .returned (.tuple #[v', .int .i64 (rightT t).1]) ∧ Bs w.heap.size w' v' (encV t) ∧ Below w.heap.size w w' := by
  have HR := Lib.hid (right_t t tv hk.txt w hrd hT)
  have HRD := Lib.hid hrd
  clear hrd hT
  by_cases h0 : (rightT t).1 = 0
  · have hr := right_zero h0
    obtain ⟨h1, h2, h3⟩ := termOf_ok hr
    have HE := Lib.hid (encV_ok hr)
    have HA : Hid (∀ (B : Nat) (w : World) (bv : Value) (xs : List UInt8), B ≤ w.heap.size → RdU B w 3 tv t.length (cvs t) → Bs B w bv xs → xs.length ≤ 100000 →
        Calls Tryd.prog 35 #[bv, tv, .int .i64 0] w (EPost B w bv (xs ++ (termOf t).enc) (0 + (termOf t).sz))) := Lib.hid (fun B w bv xs hB hR hb hl => by
      have hs : (termOf t).sz = t.length := by unfold T.sz; rw [h1]
      exact enc_all t tv h3 hk.num _ (termOf t) (Nat.le_refl _) h2 B w bv xs 0 [] hB hR hb (by omega) (by rw [h1]; simp))
    have H0 := Lib.hid hr
    clear h0 hr h1 h2 h3 hk
    go_enter Tryd.func16, Tryd.ntmps16
    go_wp2_with fail
    refine (HR.out).mono ?_
    rintro e w1 ⟨rfl, hb1⟩
    rw [H0.out]
    have hz1 := hb1.size
    have HB1 := Lib.hid hb1
    have hbs : Bs w.heap.size (w1.alloc (.cells #[.int .u8 131] 5)) (.slice (some ⟨w1.heap.size, 0, none⟩) 1 1) [131] :=
      ⟨Sl.new w1 5 [.int .u8 131] 1 rfl (by unfold maxLen; omega), fun k hk => by simp [Value.ownBlock] at hk; omega⟩
    have H35 := Lib.hid (HA.out w.heap.size (w1.alloc (.cells #[.int .u8 131] 5)) _ [131] (by simp; omega) ((RdU.of HRD.out (Nat.le_refl _)).step (hb1.alloc hz1 _)) hbs (by simp))
    clear hb1 hbs
    go_wp2_with fail
    refine (H35.out).mono ?_
    rintro e w2 ⟨v2, rfl, h2⟩
    have H2 := Lib.hid h2
    clear h2
    go_wp2_with fail
    go_ret2
    exact ⟨_, by rw [H0.out]; rfl, by rw [HE.out]; exact H2.out.bs, (HB1.out.alloc hz1 _).trans H2.out.bel⟩
  · have HE := Lib.hid (encV_bad h0)
    obtain ⟨e0, he0⟩ : ∃ e, (rightT t).1 = e := ⟨_, rfl⟩
    obtain ⟨e1, he1⟩ : ∃ e, (rightT t).2 = e := ⟨_, rfl⟩
    rw [he0] at h0 HR
    rw [he1] at HR
    rw [he0]
    have q1 : ((e0 : Int) == 0) = false := by simp; omega
    have q2 : ((e0 : Int) != 0) = true := by simp; omega
    clear h0 hk he0 he1
    go_enter Tryd.func16, Tryd.ntmps16
    go_wp2_with fail
    refine (HR.out).mono ?_
    rintro e w1 ⟨rfl, hb1⟩
    have HB1 := Lib.hid hb1
    clear hb1
    go_wp2_with fail
    go_ret2
    exact ⟨_, rfl, by rw [HE.out]; exact Bs.nil _ _, HB1.out⟩

set_option maxRecDepth 100000 in
theorem Size_any (t : List Ce) (tv : Value) (hk : OkCes t) (w : World) (hrd : Rd w 3 tv t.length (cvs t)) (hT : Lib.Utf8Tabs 0 1 w) :
    Calls Tryd.prog 22 #[tv] w fun e w' => e = .returned (.tuple #[.int .i64 (encV t).length, .int .i64 (rightT t).1]) ∧ Below w.heap.size w w' := by
  have HE := Lib.hid (Encode_any t tv hk w hrd hT)
  clear hrd hT hk
  go_enter Tryd.func22, Tryd.ntmps22
  go_wp2_with fail
  refine (HE.out).mono ?_
  rintro e w1 ⟨v, rfl, hb, hb1⟩
  obtain ⟨ao, cap, rfl, _, _⟩ := hb.shape
  have HB1 := Lib.hid hb1
  clear hb hb1
  go_wp2_with fail
  go_ret2
  exact ⟨rfl, HB1.out⟩
end Go.Proofs.YtkhjdcnlpablkaaDoor
