/- Scan and Unquote: what the program reads. -/
import Derived.Test.YtflbcijmfcmilaaDoorQuoted
namespace Go.Proofs.YtflbcijmfcmilaaDoor
open Go.RowKit
open Go.Lib (decodeL encodeRune validD)

/-- What stands in quotes from a place on: the bytes, the place behind, the error. -/
def qRes (R : Option (List UInt8 × Bool × Nat)) : List UInt8 × Nat × Nat := match R with
  | none => ([], 0, 70)
  | some (o, bad, j) => if bad = true ∨ 255 < o.length then ([], 0, 20) else (o, j, 0)

def quotedR (s : ByteArray) (pos : Nat) : Option (List UInt8 × Bool × Nat) := quotedN (s.size + 1) (s.data.toList.drop (pos + 1)) [] false (pos + 1)

/-- Scan, at a place of the text. -/
def scanR (s : ByteArray) (pos : Nat) : List UInt8 × Nat × Nat :=
  if (s.data.toList.drop pos).head? = some 39 then qRes (quotedR s pos)
  else if runTo (s.data.toList.drop pos) = 0 ∨ resL ((s.data.toList.drop pos).take (runTo (s.data.toList.drop pos))) = true then ([], 0, 70)
  else if 255 < runTo (s.data.toList.drop pos) then ([], 0, 20)
  else ((s.data.toList.drop pos).take (runTo (s.data.toList.drop pos)), pos + runTo (s.data.toList.drop pos), 0)

def resV (r : List UInt8 × Nat × Nat) : Value := .tuple #[.string ⟨r.1.toArray⟩, .int .i64 r.2.1, .int .i64 r.2.2]

/-- The text in quotes is not too long to be read. -/
def Bnd (s : ByteArray) (R : Option (List UInt8 × Bool × Nat)) : Prop := s.size ≤ 1099511627776 ∨ ∃ o b' j, R = some (o, b', j) ∧ o.length ≤ 1099511627776

theorem runTo_le (l : List UInt8) : runTo l ≤ l.length := by
  unfold runTo
  split
  · simp
  · split
    · exact (List.takeWhile_prefix _).length_le
    · omega

theorem quotedN_len : ∀ (n : Nat) (l out : List UInt8) (bad : Bool) (k : Nat) o b j, quotedN n l out bad k = some (o, b, j) → o.length ≤ out.length + 4 * l.length := by
  intro n
  induction n with
  | zero => intro l out bad k o b j h; simp [quotedN] at h
  | succ n ih =>
    intro l out bad k o b j h
    cases l with
    | nil => simp [quotedN] at h
    | cons c t =>
      simp only [quotedN] at h
      split at h
      · simp at h; rw [← h.1]; omega
      · split at h
        · split at h
          · cases h
          · rename_i v j' _
            have hd : (t.drop j').length ≤ t.length := by rw [List.length_drop]; omega
            split at h
            · have h1 := ih _ _ _ _ _ _ _ h
              have h2 := (enc_len v).2
              rw [List.length_append] at h1
              simp only [List.length_cons]
              omega
            · have h1 := ih _ _ _ _ _ _ _ h
              simp only [List.length_cons]
              omega
        · split at h
          · cases h
          · have h1 := ih _ _ _ _ _ _ _ h
            have h2 := (enc_len (decodeL (c :: t)).1).2
            have h3 := drop_len_lt (c :: t) (by simp)
            rw [List.length_append] at h1
            simp only [List.length_cons] at h3 ⊢
            omega

set_option maxHeartbeats 3200000 in
set_option maxRecDepth 100000 in
theorem scan_quote (s : ByteArray) (pos : Nat) (w : World) (hs : s.size ≤ maxLen) (hlt : pos < s.size) (hc : s[pos]'hlt = 39) (hT : Lib.Utf8Tabs 0 1 w) (hb : Bnd s (quotedR s pos)) :
    Calls Tryd.prog 18 #[.string s, .int .i64 pos] w fun e w' => e = .returned (resV (qRes (quotedR s pos))) ∧ Below w.heap.size w w' := by
  have hs' := hs
  unfold maxLen at hs'
  obtain ⟨R, hR⟩ : ∃ R, quotedR s pos = R := ⟨_, rfl⟩
  obtain ⟨b, hbb⟩ : ∃ b, w.heap.size = b := ⟨_, rfl⟩
  have hw1 : 1 < b := by
    rw [← hbb]
    exact World.block_lt_of_cell? w _ (hT.2 0 (by omega)).1
  have hcz : ((s[pos]'hlt).toNat : Int) = 39 := by rw [hc]; rfl
  have hkm : decide (pos < s.size) = true := by simp; omega
  rw [hR] at hb ⊢
  have hbel0 : Below b w (w.alloc (.cells #[.string s, .int .i64 ((pos : Int) + 1), .pointer none, .slice none 0 0, .bool false] 71)) := (Below.refl b w).alloc (by omega) _
  have hrd0 : Rdr b s (pos + 1) [] false (w.alloc (.cells #[.string s, .int .i64 ((pos : Int) + 1), .pointer none, .slice none 0 0, .bool false] 71)) := by
    refine ⟨.pointer none, .slice none 0 0, .inl rfl, ?_, World.ownsRowF_nil _ _ _ _, by simp [Value.ownBlock], fun _ => rfl⟩
    have := heap_alloc_new w (.cells #[.string s, .int .i64 ((pos : Int) + 1), .pointer none, .slice none 0 0, .bool false] 71)
    rw [hbb] at this
    exact this
  have HQ := Lib.hid (quoted_any b s (pos + 1) false (s.size + 1) R hR.symm (by omega) hb hs (by omega) _ hrd0 (tabs_keep hT hw1 hbel0) hw1)
  have HBL := Lib.hid hbel0
  have HBB := Lib.hid hbb
  have HT := Lib.hid hT
  have HV : Hid (∀ o bad j, R = some (o, bad, j) → validD o = true ∧ o.length ≤ 9007199254740992) := Lib.hid (by
    intro o bad j ho
    have h1 := hR.trans ho
    refine ⟨quotedN_valid _ _ _ _ _ Lib.validD_nil _ _ _ h1, ?_⟩
    rcases hb with hb | ⟨o', b', j', h2, h3⟩
    · have := quotedN_len _ _ _ _ _ _ _ _ h1
      have hl : s.data.toList.length = s.size := by simp
      rw [List.length_drop] at this
      simp only [List.length_nil] at this
      omega
    · rw [ho] at h2
      cases h2
      omega)
  clear hR hb hrd0 hT hc hbel0
  go_enter Tryd.func18, Tryd.ntmps18
  go_wp2_with fail
  clear hbb
  refine (HQ.out).mono ?_
  intro e w2 hpost
  obtain ⟨hb2, hpost⟩ := hpost
  have hB2 : Below b w w2 := HBL.out.trans hb2
  clear hb2
  cases R with
  | none =>
    have he : e = .returned (.bool false) := hpost
    subst he
    have HB2 := Lib.hid hB2
    clear hpost hB2 HQ
    go_wp2_with fail
    go_ret3
    exact ⟨rfl, by rw [HBB.out]; exact HB2.out⟩
  | some p =>
    obtain ⟨o, bad, j⟩ := p
    obtain ⟨he, hr2⟩ := hpost
    subst he
    have c4 := hr2.c4
    obtain ⟨hvo, hol⟩ := HV.out o bad j rfl
    cases bad with
    | true =>
      have HF : Hid (resV (qRes (some (o, true, j))) = .tuple #[.string ⟨#[]⟩, .int .i64 0, .int .i64 20]) := Lib.hid rfl
      have HB2 := Lib.hid hB2
      clear hr2 hB2 HQ HV
      go_wp2_with fail
      go_ret3
      exact ⟨by rw [HF.out]; rfl, by rw [HBB.out]; exact HB2.out⟩
    | false =>
      have HS1 := Lib.hid (rd_String b s j o false w2 hr2)
      have HB2 := Lib.hid hB2
      have hrn : rightN o = if o.length ≤ 255 then 0 else 20 := by
        unfold rightN rightL
        rw [hvo, Bool.and_true]
        by_cases h : o.length ≤ 255
        · rw [decide_eq_true h, if_pos h]; rfl
        · rw [decide_eq_false h, if_neg h]; rfl
      have HRN := Lib.hid hrn
      clear hr2 hB2 HQ HV hrn hvo
      go_wp2_with fail
      refine (HS1.out).mono ?_
      rintro e w3 ⟨rfl, hr3, hb3⟩
      have hB3 := HB2.out.trans hb3
      have HB3 := Lib.hid hB3
      have HT3 := Lib.hid (tabs_keep HT.out hw1 hB3)
      clear c4 hb3 hB3 HS1
      go_wp2_with fail
      refine (right_any ⟨o.toArray⟩ _ (by show o.toArray.size ≤ maxLen; unfold maxLen; rw [List.size_toArray]; omega) HT3.out).mono ?_
      rintro e w4 ⟨rfl, hb4⟩
      rw [show (⟨o.toArray⟩ : ByteArray).data.toList = o from rfl, HRN.out]
      have hr4 := hr3.below hb4
      have HB4 := Lib.hid (HB3.out.trans (hb4.mono (by have := hr3.lt; omega)))
      clear hr3 hb4 HT3
      by_cases h255 : o.length ≤ 255
      · rw [if_pos h255]
        have HF : Hid (resV (qRes (some (o, false, j))) = .tuple #[.string ⟨o.toArray⟩, .int .i64 j, .int .i64 0]) := Lib.hid (by
          unfold qRes
          dsimp only
          rw [if_neg (by simp; omega)]
          rfl)
        go_wp2_with fail
        have hr5 : Rdr b s j (Lib.byteCells o) false w4.drew := hr4.drewN 1
        have HB5 := Lib.hid (HB4.out.trans (Below.drew (Below.refl b w4)))
        have d1 : w4.drew.cell? ⟨b, 1, none⟩ = some (.int .i64 j) := hr4.c1
        refine wp_region_seq [] [(0, true), (1, true), (2, true), (4, true), (5, true), (6, true), (7, true), (3, false), (8, true), (9, true), (10, true)]
          Tryd.lays169.mixed (by kernel_rfl) (by kernel_rfl) (fun c a d v w h => by cases d <;> exact h) ?_
        generalize w4.drew = w5 at d1 hr5 HB5 ⊢
        clear hr4
        refine seqP_held (fun W => W.cell? ⟨b, 1, none⟩ = some (.int .i64 j)) d1 ?_
        refine seqH_take (o := ⟨some 47, _, _, _, _, none⟩) _ rfl (by rfl) (fun W hW => by (have e1 := hW; go_simp; with_reducible rfl)) ?_
        simp only [Act.put, List.setIfInBounds_toArray, List.set_cons_zero, List.set_cons_succ]
        refine seqH_take (o := ⟨some 48, _, _, _, _, none⟩) _ rfl (by rfl) (fun W hW => by (have e1 := hW; go_simp; with_reducible rfl)) ?_
        simp only [Act.put, List.setIfInBounds_toArray, List.set_cons_zero, List.set_cons_succ]
        refine seqH_take (o := ⟨some 49, _, _, _, _, none⟩) _ rfl (by rfl) (fun W hW => by (have e1 := hW; go_simp; with_reducible rfl)) ?_
        simp only [Act.put, List.setIfInBounds_toArray, List.set_cons_zero, List.set_cons_succ]
        refine seqH_take (o := ⟨some 51, _, _, _, _, none⟩) _ rfl (by rfl) (fun W hW => by (have e1 := hW; go_simp; with_reducible rfl)) ?_
        simp only [Act.put, List.setIfInBounds_toArray, List.set_cons_zero, List.set_cons_succ]
        refine seqH_take (o := ⟨some 52, _, _, _, _, none⟩) _ rfl (by rfl) (fun W hW => by (have e1 := hW; go_simp; with_reducible rfl)) ?_
        simp only [Act.put, List.setIfInBounds_toArray, List.set_cons_zero, List.set_cons_succ]
        refine seqH_take (o := ⟨some 53, _, _, _, _, none⟩) _ rfl (by rfl) (fun W hW => by (have e1 := hW; go_simp; with_reducible rfl)) ?_
        simp only [Act.put, List.setIfInBounds_toArray, List.set_cons_zero, List.set_cons_succ]
        refine seqH_take (o := ⟨some 54, _, _, _, _, none⟩) _ rfl (by rfl) (fun W hW => by (have e1 := hW; go_simp; with_reducible rfl)) ?_
        simp only [Act.put, List.setIfInBounds_toArray, List.set_cons_zero, List.set_cons_succ]
        refine seqH_call (o := ⟨some 50, _, _, _, _, none⟩) rfl (by rfl) (fun K hK => ?_)
        go_simp
        refine (rd_String b s j o false _ hr5).mono ?_
        rintro e w6 ⟨rfl, hr6, hb6⟩
        have HB6 := Lib.hid (HB5.out.trans hb6)
        refine hK _ _ hr6.c1 ?_
        clear hr5 hb6 d1 hK K
        refine seqH_take (o := ⟨some 4, _, _, _, _, none⟩) _ rfl (by rfl) (fun W hW => by (have e1 := hW; go_simp; with_reducible rfl)) ?_
        simp only [Act.put, List.setIfInBounds_toArray, List.set_cons_zero, List.set_cons_succ]
        refine seqH_take (o := ⟨some 5, _, _, _, _, none⟩) _ rfl (by rfl) (fun W hW => by (have e1 := hW; go_simp; with_reducible rfl)) ?_
        simp only [Act.put, List.setIfInBounds_toArray, List.set_cons_zero, List.set_cons_succ]
        refine seqH_take (o := ⟨some 6, _, _, _, _, none⟩) _ rfl (by rfl) (fun W hW => by (have e1 := hW; go_simp; with_reducible rfl)) ?_
        simp only [Act.put, List.setIfInBounds_toArray, List.set_cons_zero, List.set_cons_succ]
        refine seqH_nil ?_
        go_wp2_with fail
        go_ret3
        exact ⟨by rw [HF.out]; rfl, by rw [HBB.out]; exact HB6.out⟩
      · rw [if_neg h255]
        have HF : Hid (resV (qRes (some (o, false, j))) = .tuple #[.string ⟨#[]⟩, .int .i64 0, .int .i64 20]) := Lib.hid (by
          unfold qRes
          dsimp only
          rw [if_pos (by right; omega)]
          rfl)
        clear hr4
        go_wp2_with fail
        go_ret3
        exact ⟨by rw [HF.out]; rfl, by rw [HBB.out]; exact HB4.out⟩
end Go.Proofs.YtflbcijmfcmilaaDoor
