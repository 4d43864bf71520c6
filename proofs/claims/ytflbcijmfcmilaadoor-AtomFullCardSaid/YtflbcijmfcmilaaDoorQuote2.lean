/- Quote of any text, both sides. -/
import Derived.Test.YtflbcijmfcmilaaDoorQuote
namespace Go.Proofs.YtflbcijmfcmilaaDoor
open Go.RowKit
open Go.Lib (decodeL validD encodeRune)

/-- How an atom is written. -/
def quoteS (s : ByteArray) : ByteArray := if rightL s.data.toList then (if bareL s.data.toList then s else ⟨(quoteL s.data.toList).toArray⟩) else ⟨#[]⟩

theorem right_size {s : ByteArray} (h : rightL s.data.toList = true) : s.size ≤ 255 ∧ validD s.data.toList = true := by
  unfold rightL at h
  simp only [Bool.and_eq_true, decide_eq_true_eq] at h
  have hl : s.data.toList.length = s.size := by simp
  exact ⟨by omega, h.2⟩

set_option maxHeartbeats 1600000 in
set_option maxRecDepth 100000 in
theorem quote_any (s : ByteArray) (w : World) (hs : s.size ≤ maxLen) (hT : Lib.Utf8Tabs 0 1 w) (hT2 : Tz16 w) :
    Calls Tryd.prog 11 #[.string s] w fun e w' => e = .returned (.tuple #[.string (quoteS s), .int .i64 (rightN s.data.toList)]) ∧ Below w.heap.size w w' := by
  cases hr : rightL s.data.toList with
  | false =>
    have h1 : rightN s.data.toList = 20 := by unfold rightN; rw [hr]; rfl
    have HF : Hid (quoteS s = ⟨#[]⟩) := Lib.hid (by unfold quoteS; rw [hr]; rfl)
    have HR := Lib.hid h1
    have HRC := Lib.hid (right_any s w hs hT)
    clear hr h1 hT hT2
    go_enter Tryd.func11, Tryd.ntmps11
    go_wp2_with fail
    refine (HRC.out).mono ?_
    rintro e w1 ⟨rfl, hb1⟩
    rw [HR.out]
    go_wp2_with fail
    go_ret2
    exact ⟨by rw [HF.out, HR.out]; rfl, hb1⟩
  | true =>
    have h1 : rightN s.data.toList = 0 := by unfold rightN; rw [hr]; rfl
    obtain ⟨h255, hv⟩ := right_size hr
    cases hb : bareL s.data.toList with
    | false =>
      refine (quote_loop s w h255 hv hb hT hT2).mono ?_
      rintro e w' ⟨rfl, hb'⟩
      refine ⟨?_, hb'⟩
      unfold quoteS
      rw [hr, hb, h1]
      rfl
    | true =>
      have HF : Hid (quoteS s = s) := Lib.hid (by unfold quoteS; rw [hr, hb]; rfl)
      have HR := Lib.hid h1
      have HBA := Lib.hid hb
      have HRC := Lib.hid (right_any s w hs hT)
      clear hr h1 hT hT2 hv hb
      go_enter Tryd.func11, Tryd.ntmps11
      go_wp2_with fail
      refine (HRC.out).mono ?_
      rintro e w1 ⟨rfl, hb1⟩
      rw [HR.out]
      go_wp2_with fail
      refine (bare_any s _ hs).mono ?_
      rintro e w1' ⟨rfl, rfl⟩
      rw [HBA.out]
      go_wp2_with fail
      go_ret2
      exact ⟨by rw [HF.out, HR.out]; rfl, hb1⟩

theorem enc_asc_fin : ∀ d : Fin 128, Utf8.encode ((d.val : Nat) : Int) = ⟨#[d.val.toUInt8]⟩ := by decide +kernel
theorem enc_asc (v : Nat) (h : v < 128) : Utf8.encode (v : Int) = ⟨#[v.toUInt8]⟩ := enc_asc_fin ⟨v, h⟩

theorem letF_lt (v : Nat) : letF v < 128 := by
  unfold letF
  split
  · omega
  · exact escF_lt v

theorem escR_let {v : Nat} (h : letF v ≠ 0) : escR v = [92, (letF v).toUInt8] := by
  unfold letF at h ⊢
  unfold escR
  split
  · rfl
  · rename_i h1
    rw [if_neg h1] at h
    rw [if_pos h]

theorem escR_nolet {v : Nat} (h : letF v = 0) : escR v = if v < 32 ∨ (128 ≤ v ∧ v < 160) then [92, 120, 123] ++ hexL v ++ [125] else encodeRune (v : Int) := by
  have h1 : ¬ (v = 39 ∨ v = 92) := by
    rintro (rfl | rfl) <;> (revert h; decide)
  unfold letF at h
  rw [if_neg h1] at h
  unfold escR
  rw [if_neg h1, if_neg (by rw [h]; simp)]

theorem ba_app (x y : List UInt8) : (⟨x.toArray⟩ : ByteArray) ++ (⟨y.toArray⟩ : ByteArray) = ⟨(x ++ y).toArray⟩ := by
  apply ByteArray.ext
  simp [ByteArray.data_append]

set_option maxHeartbeats 6400000 in
set_option maxRecDepth 100000 in
theorem rquote_loop (s : ByteArray) (w : World) (hs : s.size ≤ 255) (hv : validD s.data.toList = true) (hb : bareL s.data.toList = false) :
    Calls Tryd.prog 12 #[.string s] w fun e w' => e = .returned (.tuple #[.string ⟨(quoteL s.data.toList).toArray⟩, .int .i64 0]) ∧ Below w.heap.size w w' := by
  have hl : s.data.toList.length = s.size := by simp
  have hrr : rightN s.data.toList = 0 := by
    unfold rightN rightL
    rw [decide_eq_true (by omega : s.data.toList.length ≤ 255), hv]
    rfl
  have HR := Lib.hid hrr
  have HRC := Lib.hid (rright_any s w (by unfold maxLen; omega))
  have HQ : Hid (quoteL s.data.toList = [39] ++ restQ s.data.toList ++ [39]) := Lib.hid rfl
  have HV := Lib.hid hv
  have HBA := Lib.hid hb
  obtain ⟨L, hL⟩ : ∃ L, runesAt 0 (runes s.data.toList) = L := ⟨_, rfl⟩
  obtain ⟨n, hn⟩ : ∃ n, (runes s.data.toList).length = n := ⟨_, rfl⟩
  have hLn : L.length = n := by rw [← hL, runesAt_len, hn]
  have hn255 : n ≤ 255 := by have := runes_len_le s.data.toList; omega
  have HRU : Hid (∀ w : World, Calls Tryd.prog 40 #[.string s] w fun e w' => ∃ v, e = .returned v ∧ Sl w' 66 4 v n (L.flatMap fun x => cell4 (badX x) x) ∧ Below w.heap.size w w' ∧ ∀ k, v.ownBlock = some k → w.heap.size ≤ k) := Lib.hid fun w => by
    have := runes_any s w (by unfold maxLen; omega) (by omega)
    rw [hL, hn] at this
    exact this
  have HL := Lib.hid hL
  clear hrr hl hb hv hL hn
  go_enter Tryd.func12, Tryd.ntmps12
  go_wp2_with fail
  refine (HRC.out).mono ?_
  rintro e w1 ⟨rfl, hb1⟩
  rw [HR.out]
  go_wp2_with fail
  refine (rbare_any s _ (by unfold maxLen; omega)).mono ?_
  rintro e w1' ⟨rfl, rfl⟩
  rw [HBA.out]
  go_wp2_with fail
  refine (HRU.out _).mono ?_
  rintro e w2 ⟨v, rfl, hsl, hb2, hob⟩
  obtain ⟨ao, cap, rfl, hc1, hc2⟩ := hsl.shape
  have HOB := Lib.hid hob
  have hbA : Below w.heap.size w w2 := hb1.trans (hb2.mono hb1.size)
  clear hob
  go_wp2_with fail
  go_loopg [17, 4] n (fun g s17 s4 wr => ∃ (j pos : Nat) (done : List UInt8), j + g = n ∧ s17 = .int .i64 j ∧ s4 = .string ⟨([39] ++ done).toArray⟩ ∧ done.length ≤ 6 * pos ∧ pos ≤ s.size ∧ Below w.heap.size w wr ∧ Below w2.heap.size w2 wr ∧ Hid (L.drop j = runesAt pos (runes (s.data.toList.drop pos)) ∧ restQ s.data.toList = done ++ restQ (s.data.toList.drop pos) ∧ validD (s.data.toList.drop pos) = true))
  case atStart => exact ⟨0, 0, [], by omega, rfl, rfl, by simp, by omega, hbA, Below.refl _ _, Lib.hid ⟨by simpa using HL.out.symm, by simp, by simpa using HV.out⟩⟩
  case round =>
    obtain ⟨j, pos, done, hj, rfl, rfl, hdl, hps, hB, hBw, hI⟩ := hrel
    cases gk with
    | zero =>
      obtain rfl : j = n := by omega
      have HF : Hid (⟨(quoteL s.data.toList).toArray⟩ = (⟨([39] ++ done).toArray⟩ : ByteArray) ++ (⟨#[39]⟩ : ByteArray)) := Lib.hid (by
        obtain ⟨h1, h2, _⟩ := hI.out
        have h3 : s.data.toList.drop pos = [] := by
          by_cases h : s.data.toList.drop pos = []
          · exact h
          · rw [List.drop_eq_nil_of_le (by omega), runes_step _ h] at h1
            simp [runesAt] at h1
        rw [h3] at h2
        rw [HQ.out, h2]
        have := ba_app ([39] ++ done) [39]
        rw [show (⟨#[39]⟩ : ByteArray) = ⟨([39] : List UInt8).toArray⟩ from rfl, this]
        simp [restQ, runes_nil])
      clear hI
      go_wp2_with fail
      go_ret2
      exact ⟨by rw [HF.out]; rfl, hB⟩
    | succ g =>
      have hjn : j < L.length := by omega
      have hne : s.data.toList.drop pos ≠ [] := by
        intro h
        have := hI.out.1
        rw [h] at this
        simp [runes_nil, runesAt] at this
        omega
      obtain ⟨r, k, hdL⟩ : ∃ r k, decodeL (s.data.toList.drop pos) = (r, k) := ⟨_, _, rfl⟩
      obtain ⟨hk1, hkl⟩ : 1 ≤ k ∧ pos + k ≤ s.size := by
        have h1 := Lib.decodeL_width (s.data.toList.drop pos)
        have h2 := Lib.decodeL_le (s.data.toList.drop pos) hne
        rw [hdL] at h1 h2
        rw [List.length_drop] at h2
        have hl : s.data.toList.length = s.size := by simp
        simp only at h1 h2
        omega
      have hdr : L.drop j = (pos, k, r) :: runesAt (pos + k) (runes (s.data.toList.drop (pos + k))) := by
        rw [hI.out.1, runes_step _ hne, hdL, List.drop_drop]
        rfl
      have hLj : L[j]'hjn = (pos, k, r) := by
        have := List.drop_eq_getElem_cons hjn
        rw [hdr] at this
        exact (List.cons.inj this).1.symm
      have hdj : L.drop (j + 1) = runesAt (pos + k) (runes (s.data.toList.drop (pos + k))) := by
        have := List.drop_eq_getElem_cons hjn
        rw [hdr] at this
        exact (List.cons.inj this).2.symm
      obtain ⟨hbad, hval⟩ := validD_tail _ hne hI.out.2.2
      have hok := decode_ok _ hbad
      have henc := encode_decode' _ hne hbad
      rw [hdL] at hok hval henc
      rw [List.drop_drop] at hval
      have hrle : r ≤ 1114111 := by
        have := Lib.decodeL_rune (s.data.toList.drop pos)
        rw [hdL] at this
        exact this
      obtain ⟨E, hE⟩ : ∃ E, escR r = E := ⟨_, rfl⟩
      have HN : Hid (L.drop (j + 1) = runesAt (pos + k) (runes (s.data.toList.drop (pos + k))) ∧ restQ s.data.toList = (done ++ E) ++ restQ (s.data.toList.drop (pos + k)) ∧ validD (s.data.toList.drop (pos + k)) = true) := Lib.hid ⟨hdj, by
        rw [hI.out.2.1, List.append_assoc, ← hE]
        congr 1
        unfold restQ
        rw [runes_step _ hne, hdL, List.flatMap_cons, List.drop_drop], hval⟩
      have hsl2 : Sl wr 66 4 (.slice ao n cap) n (L.flatMap fun x => cell4 (badX x) x) := hsl.keep fun i hi => hBw.block i (hsl.lt i hi)
      obtain ⟨g0, off, cap', cur, hv, _⟩ := hsl2.blk (by omega)
      simp at hv
      obtain ⟨rfl, rfl⟩ := hv
      have hget := flatg (fun x => cell4 (badX x) x) (fun _ => rfl) L j hjn
      rw [hLj] at hget
      have c0 := hsl2.cell (j * 4) (by omega)
      have c1 := hsl2.cell (j * 4 + 1) (by omega)
      have c2 := hsl2.cell (j * 4 + 2) (by omega)
      have c3 := hsl2.cell (j * 4 + 3) (by omega)
      rw [hget 1 (by omega)] at c1
      rw [hget 2 (by omega)] at c2
      rw [hget 3 (by omega)] at c3
      have h0 := hget 0 (by omega)
      rw [Nat.add_zero] at h0
      rw [h0] at c0
      obtain ⟨bb, hbb⟩ : ∃ b, badX (pos, k, r) = b := ⟨_, rfl⟩
      replace c0 : wr.cell? ⟨g0, off + j * 4, none⟩ = some (.int .i64 pos) := c0
      replace c1 : wr.cell? ⟨g0, off + j * 4 + 1, none⟩ = some (.int .i64 k) := c1
      replace c2 : wr.cell? ⟨g0, off + j * 4 + 2, none⟩ = some (.int .i32 r) := c2
      replace c3 : wr.cell? ⟨g0, off + j * 4 + 3, none⟩ = some (.bool (badX (pos, k, r))) := c3
      rw [hbb] at c3
      have hsz := hB.size
      have hsz1 := hBw.size
      have hel := escR_le r
      have hdl2 : (done ++ E).length ≤ 6 * (pos + k) := by rw [List.length_append, ← hE]; omega
      have hEl : E.length ≤ 6 := by rw [← hE]; exact hel
      have hdl3 : done.length ≤ 6 * 255 := by omega
      have hend : ∀ x : ByteArray, x = ⟨([39] ++ done ++ E).toArray⟩ → x = ⟨([39] ++ (done ++ E)).toArray⟩ := by
        rintro x rfl
        simp
      have HEND := Lib.hid hend
      clear hget h0 hsl2 hI hdj hdr hLj hbad hval hdL hbb hend hne
      by_cases hlet : letF r = 0
      · have HE : Hid (E = if r < 32 ∨ (128 ≤ r ∧ r < 160) then [92, 120, 123] ++ hexL r ++ [125] else encodeRune (r : Int)) := Lib.hid (by rw [← hE, escR_nolet hlet])
        have HLET := Lib.hid hlet
        clear hlet hE
        by_cases h3 : r < 32 ∨ (128 ≤ r ∧ r < 160)
        · have HE2 : Hid (E = [92, 120, 123] ++ hexL r ++ [125]) := Lib.hid (by rw [HE.out, if_pos h3])
          have hhl : (hexL r).length ≤ 2 := by unfold hexL; split <;> simp
          have HENC := Lib.hid henc
          clear HE henc
          rcases h3 with h3 | ⟨h3, h4⟩
          all_goals
            go_wp2_with fail
            refine (letter_any _ _).mono ?_
            rintro e w4 ⟨rfl, rfl⟩
            rw [HLET.out]
            go_wp2_with fail
            refine (hex_any _ (by omega) _).mono ?_
            rintro e w5 ⟨rfl, rfl⟩
            go_wp2_with fail
            go_roundg g
            case measure => omega
            case rel =>
              refine ⟨j + 1, pos + k, done ++ E, by omega, by go_num, ?_, hdl2, hkl, hB.alloc (by omega) _, hBw.alloc (by omega) _, HN⟩
              rw [HE2.out]
              congr 1
              apply ByteArray.ext
              simp [ByteArray.data_append]
        · have HE2 : Hid (E = (s.data.toList.drop pos).take k) := Lib.hid (by rw [HE.out, if_neg h3, henc])
          have h32 : ¬ r < 32 := fun h => h3 (.inl h)
          have h4 : r < 128 ∨ 160 ≤ r := by omega
          have hsk : (pos : Int) + (k : Int) ≤ (s.size : Int) := by omega
          clear HE henc h3
          rcases h4 with h4 | h4
          all_goals
            go_wp2_with fail
            refine (letter_any _ _).mono ?_
            rintro e w4 ⟨rfl, rfl⟩
            rw [HLET.out]
            go_wp2_with fail
            go_roundg g
            case measure => omega
            case rel =>
              refine ⟨j + 1, pos + k, done ++ E, by omega, by go_num, ?_, hdl2, hkl, hB.alloc (by omega) _, hBw.alloc (by omega) _, HN⟩
              rw [HE2.out]
              congr 1
              apply ByteArray.ext
              apply Array.toList_inj.1
              rw [ByteArray.data_append, Array.toList_append, Lib.extract_data, show pos + k - pos = k by omega]
              simp
      · have HE : Hid (E = [92, (letF r).toUInt8]) := Lib.hid (by rw [← hE, escR_let hlet])
        have hc8 := letF_lt r
        have henc2 := enc_asc (letF r) hc8
        obtain ⟨c, hc⟩ : ∃ c, letF r = c := ⟨_, rfl⟩
        rw [hc] at HE hc8 henc2
        have hc0 : 0 < c := by omega
        have hc1 : ((c : Int) == 0) = false := by simp; omega
        have hsz2 : ¬ 9223372036854775807 < done.length + 1 + 1 + (Utf8.encode (c : Int)).size := by
          rw [henc2]
          show ¬ _ < done.length + 1 + 1 + 1
          omega
        have HC := Lib.hid hc
        have HENC2 : Hid (∀ x : ByteArray, x = Utf8.encode (c : Int) → x = ⟨[c.toUInt8].toArray⟩) := Lib.hid fun x h => h.trans henc2
        clear hlet hE hc henc2 henc
        go_wp2_with fail
        refine (letter_any _ _).mono ?_
        rintro e w4 ⟨rfl, rfl⟩
        rw [HC.out]
        go_wp2_with fail
        go_roundg g
        case measure => omega
        case rel =>
          refine ⟨j + 1, pos + k, done ++ E, by omega, by go_num, ?_, hdl2, hkl, hB.alloc (by omega) _, hBw.alloc (by omega) _, HN⟩
          rw [HE.out, HENC2.out _ rfl]
          congr 1
          apply ByteArray.ext
          simp [ByteArray.data_append]
end Go.Proofs.YtflbcijmfcmilaaDoor
