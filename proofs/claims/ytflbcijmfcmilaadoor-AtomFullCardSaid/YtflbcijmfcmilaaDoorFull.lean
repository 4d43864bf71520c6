/- AtomFull: the walk. -/
import Derived.Test.YtflbcijmfcmilaaDoorFtx
namespace Go.Proofs.YtflbcijmfcmilaaDoor
open Go.RowKit Go.Shelf
open Go.Lib (decodeL validD encodeRune)

/-- The table with the first n texts. -/
structure TF (w0 : World) (p b n : Nat) (sv : Value) (L : List ByteArray) (w : World) : Prop where
  tb : Tb w p sv b L
  bel : Below w0.heap.size w0 w
  hp : w0.heap.size ≤ p
  hb : w0.heap.size ≤ b
  nv : ∀ k, sv.ownBlock = some k → w0.heap.size ≤ k

theorem TF.put {w0 w w' : World} {p b n : Nat} {sv sv' : Value} {L L' : List ByteArray} (h : TF w0 p b n sv L w) (ht : Tb w' p sv' b L') (hf : Fr (fun k => k = p ∨ k = b ∨ sv.ownBlock = some k) w w')
    (hn : ∀ k, sv'.ownBlock = some k → sv.ownBlock = some k ∨ w.heap.size ≤ k) : TF w0 p b (n + 1) sv' L' w' := by
  have hz := h.bel.size
  refine ⟨ht, h.bel.trans (hf.below hz fun k hk => ?_), h.hp, h.hb, fun k hk => ?_⟩
  · rcases hk with rfl | rfl | e
    · exact h.hp
    · exact h.hb
    · exact h.nv k e
  · rcases hn k hk with e | e
    · exact h.nv k e
    · omega

theorem tx_cat (k : Nat) : (⟨#[97]⟩ : ByteArray) ++ Utf8.encode (19968 + (k : Int)) = tx k := by
  have h := enc_str (19968 + k)
  have e : ((19968 + k : Nat) : Int) = 19968 + (k : Int) := by omega
  rw [e] at h
  rw [h]
  apply ByteArray.ext
  apply Array.toList_inj.1
  rw [tx_list, e]
  simp

theorem run_of_int (n : Int) (w : World) : (convert 21 9 (.int .i32 n)).run Tryd.prog w = .ok (.string (Utf8.encode n)) w := by
  have h21 : Tryd.prog.underlying 21 = some (.int .i32) := by kernel_rfl
  simp [convert, run_underlying Tryd.underlying9, run_underlying h21, Conv.intToString]

/-- The conversion, its world under a name. -/
theorem runes_conv (w : World) (s : ByteArray) : ∃ cap w', (convert 9 41 (.string s)).run Tryd.prog w = .ok (.slice (some ⟨w.heap.size, 0, none⟩) (rcs s).length cap) w' ∧ (rcs s).length ≤ cap ∧ Below w.heap.size w w' ∧
    ∀ j v, (rcs s)[j]? = some v → w'.cell? ⟨w.heap.size, j, none⟩ = some v := by
  refine ⟨_, _, run_runes w s, grownCap_ge _ _ _ _, (Below.refl _ w).drew.alloc (Nat.le_refl _) _, fun j v hj => ?_⟩
  have hlt := (List.getElem?_eq_some_iff.1 hj).1
  refine (blk_cell (heap_alloc_new w.drew _) j).trans ?_
  rw [Array.getElem?_append_left (by simpa using hlt)]
  simpa using hj

theorem tlen {w : World} {p b : Nat} {sv : Value} {L : List ByteArray} (h : Tb w p sv b L) : Calls Tryd.prog 27 #[.pointer (some ⟨p, 0, none⟩)] w fun e w' => e = .returned (.int .i64 (L.length : Int)) ∧ w' = w := by
  obtain ⟨ao, cap, hv, hc, hm⟩ := h.sl.shape
  have c0 := blk_cell h.blk 0
  rw [hv] at c0
  exact len_some p ao L.length cap w (by simpa using c0)

set_option maxHeartbeats 3200000 in
set_option maxRecDepth 100000 in
theorem atomFull_walk (s : ByteArray) (hs : s.size ≤ maxLen) (w : World) (hT : Lib.Utf8Tabs 0 1 w) :
    Calls Tryd.prog 8 #[.string s] w fun e w' => e = .returned (.bool true) ∧ Below w.heap.size w w' := by
  have HT := Lib.hid hT
  clear hT
  go_enter Tryd.func8, Tryd.ntmps8
  go_wp2_with fail
  refine (new_any w).mono ?_
  rintro e w1 ⟨rfl, ht, hb1⟩
  have HI : Hid (TF w (w.heap.size + 1) w.heap.size 0 (.slice none 0 0) (txs 0) w1) := Lib.hid ⟨ht, hb1, by omega, Nat.le_refl _, fun k hk => by simp [Value.ownBlock] at hk⟩
  clear ht hb1
  go_wp2_with fail
  go_loopg [4] 4096 (fun g s4 wr => ∃ (k : Nat) (sv : Value), k + g = 4096 ∧ s4 = .int .i64 k ∧ Hid (TF w (w.heap.size + 1) w.heap.size k sv (txs k) wr))
  case atStart => exact ⟨0, _, by omega, rfl, HI⟩
  case round =>
    clear HI
    obtain ⟨k, sv, hk, rfl, hI⟩ := hrel
    by_cases hkl : k < 4096
    · have hw1 : IntKind.i32.wrap (19968 + (k : Int)) = 19968 + (k : Int) := IntWalk.i32_in _ (by omega)
      have H3 := Lib.hid (put_any _ _ sv (txs k) (by rw [txs_len]; omega) (tx k) (by have := tx_size k; unfold maxLen; omega) wr hI.out.tb (tabs_below HT.out (Nat.le_refl _) hI.out.bel))
      have HP := Lib.hid (put_new hkl)
      obtain ⟨u, hu⟩ : ∃ u, u = Utf8.encode (19968 + (k : Int)) := ⟨_, rfl⟩
      have hcu : ∀ w, (convert 21 9 (.int .i32 (19968 + (k : Int)))).run Tryd.prog w = .ok (.string u) w := fun w => by rw [hu]; exact run_of_int _ w
      have HU : Hid ((⟨#[97]⟩ : ByteArray) ++ u = tx k) := Lib.hid (by rw [hu]; exact tx_cat k)
      have hus : u.size ≤ 4 := by
        have h1 := tx_size k
        rw [← HU.out, ByteArray.size_append] at h1
        have : (⟨#[97]⟩ : ByteArray).size = 1 := rfl
        omega
      have HK := Lib.hid hk
      clear hu hk
      go_wp2_with fail
      clear hcu
      rw [HU.out]
      refine (H3.out).mono ?_
      rintro e w5 ⟨rfl, sv', ht5, hf5, hn5⟩
      rw [HP.out] at ht5 ⊢
      have HI5 := Lib.hid (hI.out.put ht5 hf5 hn5)
      clear ht5 hf5 hn5 hI H3
      go_wp2_with fail
      go_roundg (4096 - (k + 1))
      case measure => have hk := HK.out; omega
      case rel => exact ⟨k + 1, sv', by have hk := HK.out; omega, rfl, HI5⟩
    · obtain rfl : k = 4096 := by omega
      have H3 := Lib.hid (put_any _ _ sv (txs 4096) (by rw [txs_len]; omega) s hs wr hI.out.tb (tabs_below HT.out (Nat.le_refl _) hI.out.bel))
      have HPF := Lib.hid (put_full s)
      go_wp2_with fail
      refine (H3.out).mono ?_
      rintro e w5 ⟨rfl, sv', ht5, hf5, hn5⟩
      obtain ⟨cap, w6, hcv, hcap, hb6, hcell⟩ := runes_conv w5 s
      have HI5 := hI.out.put ht5 hf5 hn5
      have hlen5 : (putN (txs 4096) s).2.length = 4096 := by
        rcases HPF.out with ⟨_, e⟩ | ⟨_, _, _, _, e⟩ | ⟨_, _, e⟩ <;> (rw [e]; exact txs_len 4096)
      have HTB := Lib.hid (HI5.tb.below hb6)
      have HB6 := Lib.hid (HI5.bel.trans (hb6.mono HI5.bel.size))
      have H14 := Lib.hid (rright_any s w6 hs)
      have HL5 := Lib.hid hlen5
      clear ht5 hf5 hn5 hI H3 HI5 hlen5
      rcases HPF.out with ⟨h1, h2⟩ | ⟨i, hi, h1, h2, h3⟩ | ⟨h1, h2, h3⟩
      · have HR : Hid (rightN s.data.toList = 20) := Lib.hid (by unfold rightN; rw [h1]; rfl)
        have HP := Lib.hid h2
        clear h1 h2 hcell hcap hb6
        rw [HP.out]
        go_wp2_with fail
        refine (H14.out).mono ?_
        rintro e w7 ⟨rfl, hb7⟩
        rw [HR.out]
        have HB7 := Lib.hid (HB6.out.trans (hb7.mono HB6.out.size))
        clear hb7
        go_wp2_with fail
        refine (awake_any _).mono ?_
        rintro e w8 ⟨rfl, hb8⟩
        go_wp2_with fail
        go_ret
        exact ⟨rfl, HB7.out.trans (hb8.mono HB7.out.size)⟩
      · have HR : Hid (rightN s.data.toList = 0) := Lib.hid (by unfold rightN; rw [h1]; rfl)
        have HP := Lib.hid h3
        have hrc : rcs s = [.int .i32 97, .int .i32 (19968 + (i : Int))] := by
          have : rcs s = ((runes s.data.toList).map Prod.fst).map fun v : Nat => Value.int .i32 (v : Int) := by unfold rcs; rw [List.map_map]; rfl
          rw [this, h2]
          simp
        rw [hrc] at hcv hcell hcap
        have c0 := hcell 0 _ rfl
        have c1 := hcell 1 _ rfl
        simp only [List.length_cons, List.length_nil] at hcv hcap
        have HG := Lib.hid hb6.size
        clear h1 h2 h3 hcell hb6 hrc
        have l0 := World.block_lt_of_cell? w6 _ c0
        have l1 := World.block_lt_of_cell? w6 _ c1
        rw [HP.out]
        go_wp2_with fail
        refine (H14.out).mono ?_
        rintro e w7 ⟨rfl, hb7⟩
        rw [HR.out]
        have HB7 := Lib.hid (HB6.out.trans (hb7.mono HB6.out.size))
        have d0 := (hb7.cell l0).trans c0
        have d1 := (hb7.cell l1).trans c1
        clear c0 c1 l0 l1
        clear hb7
        have q1 : decide ((19968 : Int) ≤ 19968 + (i : Int)) = true := decide_eq_true (by omega)
        have q2 : decide (19968 + (i : Int) < 24064) = true := by simp; omega
        have q3 : IntKind.i32.wrap (19968 + (i : Int) - 19968) = (i : Int) := by rw [IntWalk.i32_in _ (by omega)]; omega
        go_wp2_with fail
        refine (awake_any _).mono ?_
        rintro e w8 ⟨rfl, hb8⟩
        go_wp2_with fail
        go_ret
        exact ⟨rfl, HB7.out.trans (hb8.mono HB7.out.size)⟩
      · have HR : Hid (rightN s.data.toList = 0) := Lib.hid (by unfold rightN; rw [h1]; rfl)
        have HP := Lib.hid h3
        obtain ⟨R, hR0⟩ : ∃ R, (runes s.data.toList).map Prod.fst = R := ⟨_, rfl⟩
        have hrc : rcs s = R.map fun v : Nat => Value.int .i32 (v : Int) := by rw [← hR0]; unfold rcs; rw [List.map_map]; rfl
        rw [hR0] at h2
        have hways : (R.length ≠ 2) ∨ (∃ x y, R = [x, y] ∧ x ≠ 97) ∨ (∃ y, R = [97, y] ∧ y < 19968) ∨ (∃ y, R = [97, y] ∧ 24064 ≤ y) := by
          by_cases hl : R.length = 2
          · match R, hl with
            | [x, y], _ =>
              by_cases hx : x = 97
              · subst hx
                by_cases hy : y < 19968
                · exact .inr (.inr (.inl ⟨y, rfl, hy⟩))
                · refine .inr (.inr (.inr ⟨y, rfl, ?_⟩))
                  rcases Nat.lt_or_ge y 24064 with h | h
                  · exact (h2 (y - 19968) (by omega) (by rw [show 19968 + (y - 19968) = y by omega])).elim
                  · exact h
              · exact .inr (.inl ⟨x, y, rfl, hx⟩)
          · exact .inl hl
        clear h1 h2 h3 hR0
        rw [HP.out]
        rcases hways with hn | ⟨x, y, hR, hx⟩ | ⟨y, hR, hy⟩ | ⟨y, hR, hy⟩
        · have hl : (rcs s).length = R.length := by rw [hrc]; simp
          rw [hl] at hcv hcap
          obtain ⟨n, hn'⟩ : ∃ n, R.length = n := ⟨_, rfl⟩
          rw [hn'] at hcv hcap hn
          have q : ((n : Int) == 2) = false := by simp; omega
          clear hl hn' hrc hcell hb6 hn
          go_wp2_with fail
          refine (H14.out).mono ?_
          rintro e w7 ⟨rfl, hb7⟩
          rw [HR.out]
          have HB7 := Lib.hid (HB6.out.trans (hb7.mono HB6.out.size))
          have H27 := Lib.hid (tlen (HTB.out.below hb7))
          clear hb7
          go_wp2_with fail
          refine (H27.out).mono ?_
          rintro e w9 ⟨rfl, rfl⟩
          rw [HL5.out]
          go_wp2_with fail
          refine (awake_any _).mono ?_
          rintro e w8 ⟨rfl, hb8⟩
          go_wp2_with fail
          go_ret
          exact ⟨rfl, HB7.out.trans (hb8.mono HB7.out.size)⟩
        · have q : ((x : Int) == 97) = false := by simp; omega
          rw [hrc, hR] at hcv hcell hcap
          have c0 := hcell 0 _ rfl
          have c1 := hcell 1 _ rfl
          simp only [List.map_cons, List.map_nil, List.length_cons, List.length_nil] at hcv hcap
          have l0 := World.block_lt_of_cell? w6 _ c0
          have l1 := World.block_lt_of_cell? w6 _ c1
          subst hR
          clear hrc hcell hb6
          go_wp2_with fail
          refine (H14.out).mono ?_
          rintro e w7 ⟨rfl, hb7⟩
          rw [HR.out]
          have HB7 := Lib.hid (HB6.out.trans (hb7.mono HB6.out.size))
          have H27 := Lib.hid (tlen (HTB.out.below hb7))
          have d0 := (hb7.cell l0).trans c0
          have d1 := (hb7.cell l1).trans c1
          clear c0 c1 l0 l1
          clear hb7
          go_wp2_with fail
          refine (H27.out).mono ?_
          rintro e w9 ⟨rfl, rfl⟩
          rw [HL5.out]
          go_wp2_with fail
          refine (awake_any _).mono ?_
          rintro e w8 ⟨rfl, hb8⟩
          go_wp2_with fail
          go_ret
          exact ⟨rfl, HB7.out.trans (hb8.mono HB7.out.size)⟩
        · have q : decide ((19968 : Int) ≤ (y : Int)) = false := by simp; omega
          rw [hrc, hR] at hcv hcell hcap
          have c0 := hcell 0 _ rfl
          have c1 := hcell 1 _ rfl
          simp only [List.map_cons, List.map_nil, List.length_cons, List.length_nil] at hcv hcap
          have l0 := World.block_lt_of_cell? w6 _ c0
          have l1 := World.block_lt_of_cell? w6 _ c1
          subst hR
          clear hrc hcell hb6
          go_wp2_with fail
          refine (H14.out).mono ?_
          rintro e w7 ⟨rfl, hb7⟩
          rw [HR.out]
          have HB7 := Lib.hid (HB6.out.trans (hb7.mono HB6.out.size))
          have H27 := Lib.hid (tlen (HTB.out.below hb7))
          have d0 := (hb7.cell l0).trans c0
          have d1 := (hb7.cell l1).trans c1
          clear c0 c1 l0 l1
          clear hb7
          go_wp2_with fail
          refine (H27.out).mono ?_
          rintro e w9 ⟨rfl, rfl⟩
          rw [HL5.out]
          go_wp2_with fail
          refine (awake_any _).mono ?_
          rintro e w8 ⟨rfl, hb8⟩
          go_wp2_with fail
          go_ret
          exact ⟨rfl, HB7.out.trans (hb8.mono HB7.out.size)⟩
        · have q : decide ((19968 : Int) ≤ (y : Int)) = true := by simp; omega
          have q' : decide ((y : Int) < 24064) = false := by simp; omega
          rw [hrc, hR] at hcv hcell hcap
          have c0 := hcell 0 _ rfl
          have c1 := hcell 1 _ rfl
          simp only [List.map_cons, List.map_nil, List.length_cons, List.length_nil] at hcv hcap
          have l0 := World.block_lt_of_cell? w6 _ c0
          have l1 := World.block_lt_of_cell? w6 _ c1
          subst hR
          clear hrc hcell hb6
          go_wp2_with fail
          refine (H14.out).mono ?_
          rintro e w7 ⟨rfl, hb7⟩
          rw [HR.out]
          have HB7 := Lib.hid (HB6.out.trans (hb7.mono HB6.out.size))
          have H27 := Lib.hid (tlen (HTB.out.below hb7))
          have d0 := (hb7.cell l0).trans c0
          have d1 := (hb7.cell l1).trans c1
          clear c0 c1 l0 l1
          clear hb7
          go_wp2_with fail
          refine (H27.out).mono ?_
          rintro e w9 ⟨rfl, rfl⟩
          rw [HL5.out]
          go_wp2_with fail
          refine (awake_any _).mono ?_
          rintro e w8 ⟨rfl, hb8⟩
          go_wp2_with fail
          go_ret
          exact ⟨rfl, HB7.out.trans (hb8.mono HB7.out.size)⟩
end Go.Proofs.YtflbcijmfcmilaaDoor
