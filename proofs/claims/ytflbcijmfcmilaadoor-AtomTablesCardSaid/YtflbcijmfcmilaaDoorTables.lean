/- AtomTables: the walk. -/
import Derived.Test.YtflbcijmfcmilaaDoorTwo
namespace Go.Proofs.YtflbcijmfcmilaaDoor
open Go.RowKit Go.Shelf

/-- Where the first loop stands. -/
def TI (w0 : World) (p b r : Nat) (wr : World) : Prop := ∃ sv sr L, Tw w0 wr p b r sv sr L L ∧ L.length ≤ 4096 ∧ okL L
/-- Where the second one stands. -/
def TJ (w0 : World) (p b r : Nat) (sr : Value) (L : List ByteArray) (wr : World) : Prop := ∃ sv, Tw w0 wr p b r sv sr L L

set_option maxHeartbeats 3200000 in
set_option maxRecDepth 100000 in
theorem atomTables_walk (v : Value) (l : List ByteArray) (m : Int) (w : World) (hv : Rd w 1 v l.length (strs l)) (hl : ∀ x ∈ l, x.size ≤ maxLen) (hT : Lib.Utf8Tabs 0 1 w) :
    Calls Tryd.prog 10 #[v, .int .i64 m] w fun e w' => e = .returned (.bool true) ∧ Below w.heap.size w w' := by
  obtain ⟨ao, cap, rfl, hcap, hmax⟩ := hv.shape
  have HV := Lib.hid hv
  have HL := Lib.hid hl
  have HT := Lib.hid hT
  unfold maxLen at hmax
  clear hv hl hT
  go_enter Tryd.func10, Tryd.ntmps10
  go_wp2_with fail
  refine (new_any w).mono ?_
  rintro e w1 ⟨rfl, ht, hb1⟩
  have hI : TI w (w.heap.size + 1) w.heap.size w1.heap.size (w1.alloc (.cells #[.slice none 0 0] 48)) :=
    ⟨.slice none 0 0, .slice none 0 0, [], ⟨ht.below ((Below.refl _ _).alloc (Nat.le_refl _) _), ⟨heap_alloc_new _ _, Sl.nil _ _ _⟩, (fun k hk => by simp [Value.ownBlock] at hk), (fun k hk => by simp [Value.ownBlock] at hk), (fun k hk => by simp [Value.ownBlock] at hk),
      hb1.alloc hb1.size _, by omega, Nat.le_refl _, hb1.size⟩, by simp, fun x hx => by simp at hx⟩
  have HI := Lib.hid hI
  clear hI ht hb1
  go_wp2_with fail
  generalize w1.heap.size = r at HI ⊢
  generalize w1.alloc (.cells #[.slice none 0 0] 48) = w2 at HI ⊢
  go_loopg [34] l.length (fun g s34 wr => ∃ k : Nat, k + g = l.length ∧ s34 = .int .i64 k ∧ Hid (TI w (w.heap.size + 1) w.heap.size r wr))
  case atStart => exact ⟨0, by omega, rfl, HI⟩
  case round =>
    clear HI
    obtain ⟨k, hk, rfl, hI⟩ := hrel
    obtain ⟨sv, sr, L, htw, hL4, hok⟩ := hI.out
    have HW := Lib.hid htw
    have HO := Lib.hid hok
    clear hI hok
    by_cases hkl : k < l.length
    · obtain ⟨g0, off, cap', hv', _, _, hcell⟩ := HV.out.at (by omega)
      simp at hv'
      obtain ⟨rfl, rfl⟩ := hv'
      obtain ⟨x, hx⟩ : ∃ x, l[k]? = some x := ⟨l[k], List.getElem?_eq_getElem _⟩
      have hrk := hcell k (by omega)
      rw [strs_at hx] at hrk
      have hxs : x.size ≤ maxLen := HL.out x (List.mem_of_getElem? hx)
      have hlt := World.block_lt_of_cell? w _ hrk
      have ck : wr.cell? ⟨g0, off + k, none⟩ = some (.string x) := (htw.bel.cell (p := ⟨g0, off + k, none⟩) hlt).trans hrk
      have H1 := Lib.hid (find_any _ sv _ L x hxs wr htw.tb (tabs_below HT.out (Nat.le_refl _) htw.bel))
      clear htw hcell hx hrk hlt
      go_wp2_with fail
      refine (H1.out).mono ?_
      rintro e w3 ⟨rfl, hb3⟩
      have HW3 := Lib.hid (HW.out.below hb3)
      have H2 := Lib.hid (rfind_any r sr L (by omega) x hxs w3 HW3.out.rt)
      clear hb3 ck
      go_wp2_with fail
      refine (H2.out).mono ?_
      rintro e w4 ⟨rfl, hb4⟩
      have HW4 := Lib.hid (HW3.out.below hb4)
      have H3 := Lib.hid (put_any _ _ sv L hL4 x hxs w4 HW4.out.tb (tabs_below HT.out (Nat.le_refl _) HW4.out.bel))
      clear hb4
      go_wp2_with fail
      refine (H3.out).mono ?_
      rintro e w5 ⟨rfl, sv', ht5, hf5, hn5⟩
      have HW5 := Lib.hid (HW4.out.put ht5 hf5 hn5)
      have H4 := Lib.hid (rput_any r sr L (by omega) x hxs w5 HW5.out.rt)
      clear ht5 hf5 hn5
      go_wp2_with fail
      refine (H4.out).mono ?_
      rintro e w6 ⟨rfl, sr', ht6, hf6, hn6⟩
      have HW6 := Lib.hid (HW5.out.rput ht6 hf6 hn6)
      clear ht6 hf6 hn6
      go_wp2_with fail
      go_roundg (l.length - (k + 1))
      case measure => omega
      case rel => exact ⟨k + 1, by omega, rfl, Lib.hid ⟨sv', sr', (putN L x).2, HW6.out, putN_len hL4 x, putN_ok HO.out hxs⟩⟩
    · obtain rfl : k = l.length := by omega
      have H1 := Lib.hid (name_any _ _ sv L (by omega) m wr htw.tb)
      have H2 := Lib.hid (rname_any r sr L (by omega) m wr htw.rt)
      have H3 := Lib.hid (whole_any hL4 htw)
      clear htw
      go_wp2_with fail
      refine (H1.out).mono ?_
      rintro e w3 ⟨rfl, rfl⟩
      go_wp2_with fail
      refine (H2.out).mono ?_
      rintro e w4 ⟨rfl, rfl⟩
      go_wp2_with fail
      refine (H3.out).mono ?_
      rintro e w5 ⟨rfl, hb5⟩
      have htw := HW.out.below hb5
      have HW5 := Lib.hid htw
      obtain ⟨aor, capr, rfl, _, _⟩ := htw.rt.sl.shape
      have c0 := blk_cell htw.rt.blk 0
      simp at c0
      have HJ : Hid (TJ w (w.heap.size + 1) w.heap.size r (.slice aor L.length capr) L w5) := Lib.hid ⟨sv, htw⟩
      clear hb5 htw H1 H2 H3 HW HW5
      go_wp2_with fail
      clear c0
      go_loopg [112] L.length (fun g s112 wr => ∃ k : Nat, k + g = L.length ∧ s112 = .int .i64 k ∧ Hid (TJ w (w.heap.size + 1) w.heap.size r (.slice aor L.length capr) L wr))
      case atStart => exact ⟨0, by omega, rfl, HJ⟩
      case round =>
        clear HJ
        obtain ⟨k, hk, rfl, hJ⟩ := hrel
        obtain ⟨sv, htw⟩ := hJ.out
        have HW := Lib.hid htw
        clear hJ
        by_cases hkl : k < L.length
        · obtain ⟨g, off, cap', cur, hv, _, _, hg, _, _⟩ := htw.rt.sl.blk (by omega)
          simp at hv
          obtain ⟨rfl, rfl⟩ := hv
          obtain ⟨x, hx⟩ : ∃ x, L[k]? = some x := ⟨L[k], List.getElem?_eq_getElem _⟩
          have hck := htw.rt.sl.cell k (by omega)
          rw [strs_at hx] at hck
          have hmem := List.mem_of_getElem? hx
          have hxs : x.size ≤ maxLen := (HO.out x hmem).2
          obtain ⟨i, hi, hp, hat⟩ := putN_mem HO.out hmem
          have HP := Lib.hid hp
          have HN := Lib.hid (nameV_at hat)
          have H3 := Lib.hid (put_any _ _ sv L hL4 x hxs wr htw.tb (tabs_below HT.out (Nat.le_refl _) htw.bel))
          clear htw hg hx hmem hp hat
          go_wp2_with fail
          refine (H3.out).mono ?_
          rintro e w5 ⟨rfl, sv', ht5, hf5, hn5⟩
          rw [HP.out] at ht5 ⊢
          have HW5 := Lib.hid (HW.out.put ht5 hf5 hn5)
          have H4 := Lib.hid (name_any _ _ sv' L (by omega) ((i + 1 : Nat) : Int) w5 ht5)
          clear ht5 hf5 hn5
          go_wp2_with fail
          refine (H4.out).mono ?_
          rintro e w6 ⟨rfl, rfl⟩
          rw [HN.out]
          go_wp2_with fail
          go_roundg (L.length - (k + 1))
          case measure => omega
          case rel => exact ⟨k + 1, by omega, rfl, Lib.hid ⟨sv', HW5.out⟩⟩
        · obtain rfl : k = L.length := by omega
          have H3 := Lib.hid (whole_any hL4 htw)
          clear htw
          go_wp2_with fail
          refine (H3.out).mono ?_
          rintro e w5 ⟨rfl, hb5⟩
          have hb6 := (HW.out.below hb5).bel
          clear hb5
          go_wp2_with fail
          refine (awake_any _).mono ?_
          rintro e w6 ⟨rfl, hb7⟩
          go_wp2_with fail
          go_ret
          exact ⟨rfl, hb6.trans (hb7.mono hb6.size)⟩
end Go.Proofs.YtflbcijmfcmilaaDoor
