/- Quote: what the program writes of any text. -/
import Derived.Test.YtflbcijmfcmilaaDoorRight2
import Derived.IntWalk
namespace Go.Proofs.YtflbcijmfcmilaaDoor
open Go.RowKit
open Go.Lib (decodeL validD encodeRune)

theorem bldF_below {B b : Nat} {bs : List Value} {w w' : World} (h : BldF B b bs w) (hb : Below w.heap.size w w') : BldF B b bs w' := by
  have key : ∀ p, Lib.BuilderAtF 53 5 B b p bs w → Lib.BuilderAtF 53 5 B b p bs w' := by
    intro p hp
    have hlt := hp.lt
    obtain ⟨hB, v, hbk, hown, hne⟩ := hp
    refine ⟨hB, v, by rw [hb.block b hlt]; exact hbk, hown.kept (row := none) ⟨hb.os, hb.tape, hb.output, hb.size, fun k hk _ => hb.block k hk⟩ (by cases hv : v.ownBlock <;> simp), hne⟩
  rcases h with h | h
  · exact .inl (key _ h)
  · exact .inr (key _ h)

theorem escR_le (v : Nat) : (escR v).length ≤ 6 := by
  unfold escR
  split
  · simp
  · split
    · simp
    · split
      · have : (hexL v).length ≤ 2 := by unfold hexL; split <;> simp
        simp
        omega
      · have := (enc_len v).2
        omega

/-- Where a run of runes ends: what is written of the rest. -/
def restQ (l : List UInt8) : List UInt8 := (runes l).flatMap fun p => escR p.1

theorem tz_below {B : Nat} {w w' : World} (h : Tz16 w) (hB : w.heap.size ≤ B) (hb : Below B w w') : Tz16 w' := by
  unfold Tz16 at h ⊢
  rw [hb.cell (p := ⟨5, 15, none⟩) (by have := World.block_lt_of_cell? w _ h; omega)]
  exact h

theorem esc_ne {v : Nat} (h : escF v ≠ 0) : v ≠ 39 ∧ v ≠ 92 := by
  constructor <;> (rintro rfl; exact h (by decide))

theorem escF_lt (v : Nat) : escF v < 128 := by
  unfold escF
  repeat' split
  all_goals omega

set_option maxHeartbeats 6400000 in
set_option maxRecDepth 100000 in
theorem quote_loop (s : ByteArray) (w : World) (hs : s.size ≤ 255) (hv : validD s.data.toList = true) (hb : bareL s.data.toList = false) (hT : Lib.Utf8Tabs 0 1 w) (hT2 : Tz16 w) :
    Calls Tryd.prog 11 #[.string s] w fun e w' => e = .returned (.tuple #[.string ⟨(quoteL s.data.toList).toArray⟩, .int .i64 0]) ∧ Below w.heap.size w w' := by
  have hl : s.data.toList.length = s.size := by simp
  have hrr : rightN s.data.toList = 0 := by
    unfold rightN rightL
    rw [decide_eq_true (by omega : s.data.toList.length ≤ 255), hv]
    rfl
  have HR := Lib.hid hrr
  have HRC := Lib.hid (right_any s w (by unfold maxLen; omega) hT)
  have HQ : Hid (quoteL s.data.toList = [39] ++ restQ s.data.toList ++ [39]) := Lib.hid rfl
  have HV := Lib.hid hv
  have HBA := Lib.hid hb
  obtain ⟨B, hB⟩ : ∃ B, w.heap.size = B := ⟨_, rfl⟩
  have HB0 := Lib.hid hB
  clear hrr hl hb hv hT hB
  go_enter Tryd.func11, Tryd.ntmps11
  go_wp2_with fail
  refine (HRC.out).mono ?_
  rintro e w1 ⟨rfl, hb1⟩
  rw [HR.out]
  have hT1 := tz_below hT2 (Nat.le_refl _) hb1
  clear hT2
  go_wp2_with fail
  refine (bare_any s _ (by unfold maxLen; omega)).mono ?_
  rintro e w1' ⟨rfl, rfl⟩
  rw [HBA.out]
  obtain ⟨b, hb'⟩ : ∃ b, w1'.heap.size = b := ⟨_, rfl⟩
  have hf : BldF b b [] (w1'.alloc (.cells #[.pointer none, .slice none 0 0] 53)) := by
    have := Lib.IsBuilderF.of (Lib.fresh_isBuilder 53 5 w1')
    rwa [hb'] at this
  have hbe : Below b w1' (w1'.alloc (.cells #[.pointer none, .slice none 0 0] 53)) := (Below.refl _ _).alloc (by omega) _
  have HBB := Lib.hid hb'
  go_wp2_with fail
  clear hb'
  refine (WriteByte_any b b [] 39 _ hf (by simp) (by have := HBB.out; simp; omega)).mono ?_
  rintro e w2 ⟨rfl, hat, hb2, _⟩
  have hB2 : Below b w1' w2 := hbe.trans hb2
  have hs2 : b ≤ w2.heap.size := by have := hB2.size; have := HBB.out; omega
  obtain ⟨K, hK⟩ : ∃ K, w2.heap.size = K := ⟨_, rfl⟩
  have hKB : b < K := by have := hat.lt; omega
  have hf3 : BldF b b [.int .u8 39] (w2.iter s 0) := Lib.IsBuilderF.alloc (Or.inr hat) _
  have hit3 : (w2.iter s 0).heap[w2.heap.size]? = some (.stringIter s 0) := World.iter_heap w2 s 0
  have hB3 : Below b w1' (w2.iter s 0) := hB2.alloc hs2 _
  rw [hK] at hit3
  have HK := Lib.hid hK
  clear hf hbe hat hb2 hB2
  go_wp2_with fail
  clear hK
  go_loopg [7, 8] s.size (fun g s7 s8 wr => ∃ (pos : Nat) (done : List UInt8), pos + g = s.size ∧ done.length ≤ 6 * pos ∧ BldF b b (Lib.byteCells ([39] ++ done)) wr ∧ wr.heap[K]? = some (.stringIter s pos) ∧ Below b w1' wr ∧ Hid (restQ s.data.toList = done ++ restQ (s.data.toList.drop pos) ∧ validD (s.data.toList.drop pos) = true))
  case atStart => exact ⟨0, [], by omega, by simp, by simpa [Lib.byteCells] using hf3, hit3, hB3, Lib.hid ⟨by simp, by simpa using HV.out⟩⟩
  case round =>
    clear hf3 hit3 hB3
    obtain ⟨pos, done, hg, hdl, hf, hit, hB3, hI⟩ := hrel
    have hsz := hB3.size
    have hBr : b ≤ wr.heap.size := by have := HBB.out; omega
    have hKl : K < wr.heap.size := bld_lt hit
    cases gk with
    | zero =>
      obtain rfl : pos = s.size := by omega
      have hnx : ∀ ty, (Instr.next (.pointer (some ⟨K, 0, none⟩)) true ty).run Tryd.prog wr = _ := fun ty => Lib.run_next_end_at wr K s s.size ty hit (by omega)
      have HF : Hid (quoteL s.data.toList = [39] ++ done ++ [39]) := Lib.hid (by
        have := hI.out.1
        rw [drop_end (Nat.le_refl _)] at this
        rw [HQ.out, this]
        simp [restQ, runes_nil])
      clear hI
      go_wp2_with fail
      refine (WriteByte_any b b _ 39 _ hf (by rw [Lib.byteCells_length]; simp; omega) hBr).mono ?_
      rintro e w4 ⟨rfl, hat, hb4, _⟩
      have hf4 : BldF b b (Lib.byteCells ([39] ++ done ++ [39])) w4 := by
        rw [cells_add]; exact Or.inr hat
      have hB4 : Below b w1' w4 := hB3.trans hb4
      clear hat hb4 hf hnx hit
      go_wp2_with fail
      refine (Tryd.Builder_String_any_k b b _ _ hf4 (by have := hB4.size; have := HBB.out; omega)).mono ?_
      rintro e w5 ⟨rfl, _, hb5, _⟩
      go_wp2_with fail
      go_ret2
      exact ⟨by rw [HF.out]; rfl, hb1.trans ((hB4.trans hb5).mono (by have := HBB.out; have := hb1.size; omega))⟩
    | succ g =>
      have hlt : pos < s.size := by omega
      obtain ⟨r, k, hd⟩ : ∃ r k, Utf8.decode s pos = (r, k) := ⟨_, _, rfl⟩
      have hne : s.data.toList.drop pos ≠ [] := by rw [drop_at hlt]; simp
      have hdL : decodeL (s.data.toList.drop pos) = (r, k) := by rw [Lib.decodeL_drop, hd]
      obtain ⟨hk1, hkl⟩ : 1 ≤ k ∧ pos + k ≤ s.size := by
        have h1 := Lib.decodeL_width (s.data.toList.drop pos)
        have h2 := Lib.decodeL_le (s.data.toList.drop pos) hne
        rw [hdL] at h1 h2
        rw [List.length_drop] at h2
        have hl : s.data.toList.length = s.size := by simp
        simp only at h1 h2
        omega
      have hnx : ∀ ty, (Instr.next (.pointer (some ⟨K, 0, none⟩)) true ty).run Tryd.prog wr = .ok (.tuple #[.bool true, .int .i64 pos, .int .i32 r]) (wr.iterAt K s (pos + k)) := fun ty => by
        have := Lib.run_next_any_at (P := Tryd.prog) wr K s pos ty hit hlt
        rw [this, hd]
      obtain ⟨hbad, hval⟩ := validD_tail _ hne hI.out.2
      have hok := decode_ok _ hbad
      rw [hdL] at hok hval
      rw [List.drop_drop] at hval
      obtain ⟨E, hE⟩ : ∃ E, escR r = E := ⟨_, rfl⟩
      have HN : Hid (restQ s.data.toList = (done ++ E) ++ restQ (s.data.toList.drop (pos + k)) ∧ validD (s.data.toList.drop (pos + k)) = true) := Lib.hid ⟨by
        rw [hI.out.1, List.append_assoc, ← hE]
        congr 1
        unfold restQ
        rw [runes_step _ hne, hdL, List.flatMap_cons, List.drop_drop], hval⟩
      have hrle : r ≤ 1114111 := by
        have := Lib.rune_le s pos
        rw [hd] at this
        exact this
      have hf2 := hf.iterAt hit (pos + k)
      have hit2 := Lib.iterAt_heap wr K s pos (pos + k) hit
      have hB2 := Lib.below_iterAt hB3 (k := K) (by omega) s (pos + k)
      have hs2' : b ≤ (wr.iterAt K s (pos + k)).heap.size := by rw [Lib.iterAt_size]; omega
      have hel := escR_le r
      have hdl2 : (done ++ E).length ≤ 6 * (pos + k) := by rw [List.length_append, ← hE]; omega
      generalize wr.iterAt K s (pos + k) = wi at hnx hf2 hit2 hB2 hs2'
      clear hf hit hB3 hd hne hdL hbad hval hI
      have hblen : (Lib.byteCells ([39] ++ done)).length = 1 + done.length := by rw [Lib.byteCells_length]; simp; omega
      have HBL := Lib.hid hblen
      clear hblen
      by_cases h1 : r = 39 ∨ r = 92
      · have HE : Hid (E = [92, r.toUInt8]) := Lib.hid (by rw [← hE]; unfold escR; rw [if_pos h1])
        have h0 : escF r = 0 := by rcases h1 with rfl | rfl <;> rfl
        have hr127 : r ≤ 127 := by omega
        have hrc : Lib.runeCells ((r : Nat) : Int) = Lib.byteCells [r.toUInt8] := by rw [← Lib.byteCells_encodeRune, enc_small r hr127]
        have HRC2 := Lib.hid hrc
        have HH0 := Lib.hid h0
        clear hrc h0 hE hel
        rcases h1 with rfl | rfl
        all_goals
          go_wp2_with fail
          refine (escape_any _ _).mono ?_
          rintro e w4 ⟨rfl, rfl⟩
          rw [HH0.out]
          go_wp2_with fail
          refine (WriteByte_any b b _ 92 _ hf2 (by rw [HBL.out]; omega) hs2').mono ?_
          rintro e w5 ⟨rfl, hat, hb5, hk5⟩
          have hf5 : BldF b b (Lib.byteCells ([39] ++ done ++ [92])) w5 := by
            rw [cells_add]; exact Or.inr hat
          have hB5 := hB2.trans hb5
          have hit5 := hk5.iter hit2 (by omega)
          clear hat hb5 hk5 hf2
          go_wp2_with fail
          refine (WriteRune_any b b _ _ (by omega) (by omega) _ hf5 (by rw [Lib.byteCells_length]; simp; omega) (by have := hB5.size; have := HBB.out; omega)).mono ?_
          rintro e w6 ⟨rfl, hat, hb6, hk6⟩
          have hf6 : BldF b b (Lib.byteCells ([39] ++ (done ++ E))) w6 := by
            rw [HE.out, ← List.append_assoc, show ∀ x : UInt8, [92, x] = [92] ++ [x] from fun _ => rfl, ← List.append_assoc, Lib.byteCells_append, ← HRC2.out]
            exact Or.inr hat
          have hB6 := hB5.trans hb6
          have hit6 := hk6.iter hit5 (by omega)
          clear hat hb6 hk6 hf5
          go_wp2_with fail
          go_roundg (g + 1 - k)
          case measure => omega
          case rel => exact ⟨pos + k, done ++ E, by omega, hdl2, hf6, hit6, hB6, HN⟩
      · have q39 : ((r : Int) == 39) = false := by simp; omega
        have q92 : ((r : Int) == 92) = false := by simp; omega
        by_cases h2 : escF r = 0
        · by_cases h3 : r < 32 ∨ (128 ≤ r ∧ r < 160)
          · have HE : Hid (E = [92, 120, 123] ++ hexL r ++ [125]) := Lib.hid (by
              rw [← hE]; unfold escR; rw [if_neg h1, if_neg (by rw [h2]; simp), if_pos h3])
            have hr256 : r < 256 := by omega
            have HH0 := Lib.hid h2
            have hhl : (hexL r).length ≤ 2 := by unfold hexL; split <;> simp
            have hwr : IntKind.i64.wrap (r : Int) = (r : Int) := IntWalk.i64_in _ (by omega)
            clear h1 h2 hE hel
            have hcat : ∀ x : ByteArray, x = (⟨#[92, 120, 123]⟩ : ByteArray) ++ (⟨(hexL r).toArray⟩ : ByteArray) ++ (⟨#[125]⟩ : ByteArray) → Lib.strCells x = Lib.byteCells ([92, 120, 123] ++ hexL r ++ [125]) := by
              rintro x rfl
              rw [Lib.strCells_eq]
              simp [ByteArray.data_append]
            have hszc : ∀ x : ByteArray, x = (⟨#[92, 120, 123]⟩ : ByteArray) ++ (⟨(hexL r).toArray⟩ : ByteArray) ++ (⟨#[125]⟩ : ByteArray) → x.size ≤ 8 := by
              rintro x rfl
              rw [ByteArray.size_append, ByteArray.size_append]
              show 3 + (hexL r).toArray.size + 1 ≤ 8
              rw [List.size_toArray]
              omega
            have HSZ := Lib.hid hszc
            have HCAT := Lib.hid hcat
            clear hcat hszc
            rcases h3 with h3 | ⟨h3, h4⟩
            all_goals
              go_wp2_with fail
              refine (escape_any _ _).mono ?_
              rintro e w4 ⟨rfl, rfl⟩
              rw [HH0.out]
              go_wp2_with fail
              refine (fmt16_any r hr256 _ (tz_below hT1 (by have := HBB.out; omega) hB2)).mono ?_
              rintro e w5 ⟨rfl, hb5⟩
              have hf5 := bldF_below hf2 hb5
              have hB5 := hB2.trans (hb5.mono hs2')
              have hit5 : w5.heap[K]? = some (.stringIter s (pos + k)) := by rw [hb5.block K (bld_lt hit2)]; exact hit2
              have hs5 := hb5.size
              clear hf2 hB2 hit2 hb5 hnx
              go_wp2_with fail
              refine (WriteString_any b b _ _ _ hf5 (by have := HSZ.out _ rfl; rw [HBL.out]; omega) (by omega)).mono ?_
              rintro e w6 ⟨rfl, hat, hb6, hk6⟩
              have hf6 : BldF b b (Lib.byteCells ([39] ++ (done ++ E))) w6 := by
                rw [HCAT.out _ rfl, ← HE.out, ← Lib.byteCells_append, List.append_assoc] at hat
                exact Or.inr hat
              have hB6 := hB5.trans hb6
              have hit6 := hk6.iter hit5 (by omega)
              clear hat hb6 hk6 hf5
              go_wp2_with fail
              go_roundg (g + 1 - k)
              case measure => omega
              case rel => exact ⟨pos + k, done ++ E, by omega, hdl2, hf6, hit6, hB6, HN⟩
          · have HE : Hid (E = encodeRune (r : Int)) := Lib.hid (by
              rw [← hE]; unfold escR; rw [if_neg h1, if_neg (by rw [h2]; simp), if_neg h3])
            have HH0 := Lib.hid h2
            have h32 : ¬ r < 32 := fun h => h3 (.inl h)
            have hrc : Lib.runeCells ((r : Nat) : Int) = Lib.byteCells E := by rw [← Lib.byteCells_encodeRune, HE.out]
            have HRC2 := Lib.hid hrc
            have h4 : r < 128 ∨ 160 ≤ r := by omega
            clear h1 h2 hE hel hrc h3
            rcases h4 with h4 | h4
            all_goals
              go_wp2_with fail
              refine (escape_any _ _).mono ?_
              rintro e w4 ⟨rfl, rfl⟩
              rw [HH0.out]
              go_wp2_with fail
              refine (WriteRune_any b b _ _ (by omega) (by omega) _ hf2 (by rw [HBL.out]; omega) hs2').mono ?_
              rintro e w6 ⟨rfl, hat, hb6, hk6⟩
              have hf6 : BldF b b (Lib.byteCells ([39] ++ (done ++ E))) w6 := by
                rw [HRC2.out, ← Lib.byteCells_append, List.append_assoc] at hat
                exact Or.inr hat
              have hB6 := hB2.trans hb6
              have hit6 := hk6.iter hit2 (by omega)
              clear hat hb6 hk6 hf2
              go_wp2_with fail
              go_roundg (g + 1 - k)
              case measure => omega
              case rel => exact ⟨pos + k, done ++ E, by omega, hdl2, hf6, hit6, hB6, HN⟩
        · have HE : Hid (E = [92, (escF r).toUInt8]) := Lib.hid (by
            rw [← hE]; unfold escR; rw [if_neg h1, if_pos h2])
          have hlt8 := escF_lt r
          obtain ⟨c, hc⟩ : ∃ c, escF r = c := ⟨_, rfl⟩
          have hc0 : 0 < c := by omega
          have hc1 : ((c : Int) == 0) = false := by simp; omega
          have hc8 : (Value.int IntKind.u8 (c : Int)) = .int .u8 ((c.toUInt8).toNat : Int) := by
            rw [show c.toUInt8.toNat = c by simp; omega]
          rw [hc] at HE hlt8
          have HC := Lib.hid hc
          have HC8 := Lib.hid hc8
          clear h1 h2 hE hel hc hc8
          go_wp2_with fail
          refine (escape_any _ _).mono ?_
          rintro e w4 ⟨rfl, rfl⟩
          rw [HC.out]
          go_wp2_with fail
          refine (WriteByte_any b b _ 92 _ hf2 (by rw [HBL.out]; omega) hs2').mono ?_
          rintro e w5 ⟨rfl, hat, hb5, hk5⟩
          have hf5 : BldF b b (Lib.byteCells ([39] ++ done ++ [92])) w5 := by
            rw [cells_add]; exact Or.inr hat
          have hB5 := hB2.trans hb5
          have hit5 := hk5.iter hit2 (by omega)
          clear hat hb5 hk5 hf2
          go_wp2_with fail
          refine (WriteByte_any b b _ c _ hf5 (by rw [Lib.byteCells_length]; simp; omega) (by have := hB5.size; have := HBB.out; omega)).mono ?_
          rintro e w6 ⟨rfl, hat, hb6, hk6⟩
          have hf6 : BldF b b (Lib.byteCells ([39] ++ (done ++ E))) w6 := by
            rw [HC8.out, ← cells_add, List.append_assoc, List.append_assoc] at hat
            rw [HE.out]
            exact Or.inr hat
          have hB6 := hB5.trans hb6
          have hit6 := hk6.iter hit5 (by omega)
          clear hat hb6 hk6 hf5
          go_wp2_with fail
          go_roundg (g + 1 - k)
          case measure => omega
          case rel => exact ⟨pos + k, done ++ E, by omega, hdl2, hf6, hit6, hB6, HN⟩
end Go.Proofs.YtflbcijmfcmilaaDoor
