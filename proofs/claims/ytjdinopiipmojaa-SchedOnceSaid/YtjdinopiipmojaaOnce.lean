/- SchedOnce: each once, in turn. -/
import Derived.Test.YtjdinopiipmojaaOnceLaw
import Derived.Test.YtjdinopiipmojaaStarves
import Derived.Deep.CutBlock
import Derived.Deep.DeepCutAuto
namespace Go.Proofs.Ytjdinopiipmojaa
open Go.RowKit
structure OS (B : Nat) (w0 w : World) (G : Nat) (zs : List Int) (m : Nat) (bs : Nat → Bool) (vs : Int → Value) (c : Int) (L : Int → List Int) : Prop where
  q : QIn B w0 w (B + 1) B vs c L
  blk : w.heap[G]? = some (.cells (rowf 64 fun i => .bool (bs i)) 31 (0, 0))
  ng : ¬ bf (B + 1) B vs G
  left : Left zs m bs L
  c0 : 0 ≤ c
  c8 : c ≤ 8
  hG : B ≤ G

theorem OS.store {B : Nat} {w0 w : World} {G : Nat} {zs : List Int} {m : Nat} {bs : Nat → Bool} {vs : Int → Value} {c : Int} {L : Int → List Int} (q : QIn B w0 w (B + 1) B vs c L)
    (blk : w.heap[G]? = some (.cells (rowf 64 fun i => .bool (bs i)) 31 (0, 0))) (ng : ¬ bf (B + 1) B vs G) (k : Nat) (b : Bool) (left : Left zs m (upd bs k b) L) (c0 : 0 ≤ c) (c8 : c ≤ 8) (hG : B ≤ G) :
    OS B w0 (w.setCell ⟨G, k, none⟩ (.bool b)) G zs m (upd bs k b) vs c L := by
  refine ⟨q.keep (F := fun x => x = G) ((Fr.refl (fun x => x = G) w).setCell (p := ⟨G, k, none⟩) (.inl rfl) _) (fun k hk e => ng (e ▸ hk)) (fun k e => by omega), ?_, ng, left, c0, c8, hG⟩
  rw [blk_set blk, rowf_set]
  congr 3
  funext i
  unfold upd
  split <;> rfl

theorem OS.set2 {B : Nat} {w0 w : World} {G G2 : Nat} {zs : List Int} {m : Nat} {bs : Nat → Bool} {vs : Int → Value} {c : Int} {L : Int → List Int} (h : OS B w0 w G zs m bs vs c L) (hg : B ≤ G2) (hne : G ≠ G2) (ng : ¬ bf (B + 1) B vs G2) (i : Nat) (v : Value) :
    OS B w0 (w.setCell ⟨G2, i, none⟩ v) G zs m bs vs c L :=
  ⟨h.q.keep (F := fun x => x = G2) ((Fr.refl (fun x => x = G2) w).setCell (p := ⟨G2, i, none⟩) (.inl rfl) _) (fun k hk e => ng (e ▸ hk)) (fun k e => by omega), by rw [blk_set_other _ (by simpa using hne)]; exact h.blk, h.ng, h.left, h.c0, h.c8, h.hG⟩

/-- What was told last of each priority. -/
structure LS (B : Nat) (w : World) (G2 : Nat) (ls : Nat → Int) (vs : Int → Value) (L : Int → List Int) : Prop where
  blk : w.heap[G2]? = some (.cells (rowf 4 fun i => .int .i64 (ls i)) 33 (0, 0))
  ng : ¬ bf (B + 1) B vs G2
  hG : B ≤ G2
  lt : ∀ i : Nat, i < 4 → ∀ y ∈ L ((i : Int) + 1), ls i < y

theorem LS.store {B : Nat} {w : World} {G2 : Nat} {ls : Nat → Int} {vs : Int → Value} {L : Int → List Int} (blk : w.heap[G2]? = some (.cells (rowf 4 fun i => .int .i64 (ls i)) 33 (0, 0))) (ng : ¬ bf (B + 1) B vs G2) (hG : B ≤ G2) (k : Nat) (x : Int)
    (lt : ∀ i : Nat, i < 4 → ∀ y ∈ L ((i : Int) + 1), upd ls k x i < y) : LS B (w.setCell ⟨G2, k, none⟩ (.int .i64 x)) G2 (upd ls k x) vs L := by
  refine ⟨?_, ng, hG, lt⟩
  rw [blk_set blk, rowf_set]
  congr 3
  funext i
  unfold upd
  split <;> rfl

set_option maxRecDepth 100000 in
set_option maxHeartbeats 1600000 in
theorem once_walk (ao : Option Addr) (n cap : Nat) (zs : List Int) (ao1 : Option Addr) (n1 cap1 : Nat) (ys : List Int) (w : World) (r0 : Rd w 1 (.slice ao n cap) n (zs.map (Value.int .u8))) (hz : ∀ z ∈ zs, 0 ≤ z ∧ z < 256)
    (r1 : Rd w 1 (.slice ao1 n1 cap1) n1 (ys.map (Value.int .u8))) (hy : ∀ z ∈ ys, 0 ≤ z ∧ z < 256) :
    Calls Try.prog 4 #[.slice ao n cap, .slice ao1 n1 cap1] w fun e w' => e = .returned (.bool true) ∧ Below w.heap.size w w' := by
  obtain ⟨B, hB⟩ : ∃ B, w.heap.size = B := ⟨_, rfl⟩
  obtain ⟨_, _, hv0, hc0, hm0⟩ := r0.shape
  simp at hv0
  obtain ⟨rfl, rfl⟩ := hv0
  obtain ⟨_, _, hv1, hc1, hm1⟩ := r1.shape
  simp at hv1
  obtain ⟨rfl, rfl⟩ := hv1
  unfold maxLen at hm0 hm1
  have HL := Lib.hid (show zs.length = n by have := r0.len; simpa using this)
  have HL1 := Lib.hid (show ys.length = n1 by have := r1.len; simpa using this)
  have HZ := Lib.hid hz
  have HY := Lib.hid hy
  clear hz hy
  go_enter Try.func4, Try.ntmps4
  go_wp2_with fail
  refine (New_any _).mono ?_
  rintro e w1 ⟨rfl, hq, hb⟩
  have h1 := QIn.new hq hb
  rw [hB] at h1 ⊢
  have hsz : w.heap.size ≤ B := by omega
  have HB := Lib.hid hB
  clear hq hb hB
  go_upto_if 22 with fail
  go_cut [0] (fun s0 wx => wx = w1 ∧ ∃ m : Nat, m ≤ n ∧ m ≤ 64 ∧ s0 = .slice ao m cap)
  case first =>
    by_cases h64 : 64 < n
    · go_wp2_with fail
      go_meet
      case rel => exact ⟨rfl, 64, by omega, by omega, by first | rfl | simp⟩
    · go_wp2_with fail
      go_meet
      case rel => exact ⟨rfl, n, by omega, by omega, rfl⟩
  case rest =>
    obtain ⟨rfl, m, hmn, hm64, rfl⟩ := hcut
    have r2 := r0.take hmn
    obtain ⟨G, hG⟩ : ∃ G, wc.heap.size = G := ⟨_, rfl⟩
    have hGB : B ≤ G := by have := h1.size; omega
    have hS0 : OS B w (wc.alloc (.cells (rowf 64 fun _ => .bool false) 31)) G zs m (fun i => decide (i < 0)) (fun _ => .slice none 0 0) 0 (fun _ => []) := by
      refine ⟨h1.keep ((Fr.refl (fun _ => False) _).alloc _) (fun _ _ h => h) (fun _ h => h.elim), ?_, fun hb => ?_, (Left.empty zs m).congr (by simp), by omega, by omega, hGB⟩
      · rw [← hG]; exact heap_alloc_new wc _
      · have := h1.q.lt G hb; omega
    clear h1
    go_upto_block 0 with fail
    go_cut [] (fun wx => ∃ bs vs c L, OS B w wx G zs m bs vs c L ∧ sumL L 4 ≤ 64)
    case first =>
      go_wp2_with fail
      go_loopw [7] (fun s7 wr => ∃ k : Nat, k ≤ m ∧ s7 = .int .i64 k ∧ ∃ bs vs c L, OS B w wr G zs m bs vs c L ∧ sumL L 4 = k ∧ ∀ i, i < m → bs i = decide (i < k)) (fun s7 _ => m - (intOf s7).toNat)
      case atStart => exact ⟨0, by omega, rfl, _, _, _, _, hS0, by simp [sumL], fun _ _ => rfl⟩
      case round =>
        clear hS0
        obtain ⟨k, hkm, rfl, bs, vs, c, L, hS, hsum, hbs⟩ := hrel
        by_cases hlt : k < m
        · obtain ⟨g, off, cap', hv, _, _, hcell⟩ := (r2.below hsz hS.q.below).at (by omega)
          simp at hv
          obtain ⟨rfl, rfl⟩ := hv
          obtain ⟨z, hz⟩ : ∃ z, zs[k]? = some z := ⟨zs[k]'(by have := HL.out; omega), List.getElem?_eq_getElem _⟩
          have hck := hcell k (by omega)
          rw [List.getElem?_take, if_pos (by omega), show (zs.map (Value.int .u8))[k]? = some (.int .u8 z) by simp [hz]] at hck
          clear hcell
          obtain ⟨hz1, hz2⟩ := HZ.out z (List.mem_of_getElem? hz)
          have hno : ∀ j, 1 ≤ j → j ≤ 4 → ((k : Int) + 1) ∉ L j := fun j j1 j4 hj => by
            obtain ⟨i, y, e1, e2, e3, _⟩ := (hS.left.mem j _ j1 j4).1 hj
            rw [hbs i e2] at e3
            have : i < k := by simpa using e3
            omega
          have hadd := hS.left.add hbs hlt hz
          have HA := Lib.hid hadd
          have HX := Lib.hid hz
          have HB2 := Lib.hid hbs
          clear hz hbs hadd
          go_wp2_with fail
          refine (Add_ok _ _ _ _ _ _ _ _ hS.q.q (by omega) (by omega) (by omega) (by omega) (by omega) hno).mono ?_
          rintro e w2 ⟨rfl, hp⟩
          obtain ⟨vs2, hq2, hkp⟩ := hS.q.step2 hp
          obtain ⟨hb2, hn2⟩ := hkp G _ hS.blk hS.ng
          have hS2 := OS.store hq2 hb2 hn2 k true HA.out hS.c0 hS.c8 hS.hG
          have HN := Lib.hid (show sumL (setL L (1 + z % 4) (L (1 + z % 4) ++ [(k : Int) + 1])) 4 = k + 1 by
            have := sumL_set L (1 + z % 4) (L (1 + z % 4) ++ [(k : Int) + 1]) (by omega) (by omega)
            simp at this; omega)
          have ck := blk_cell hb2 k
          rw [rowf_get _ _ _ (by omega)] at ck
          have fk := blk_free hb2 k
          clear hp hq2 hkp hno hb2 hn2
          go_wp2_with fail
          go_roundw
          case rel => exact ⟨k + 1, by omega, by go_num, _, _, _, _, hS2, HN.out, fun i hi => by
            unfold upd
            split
            · simp; omega
            · rw [HB2.out i hi]; simp; omega⟩
          case measure => simp [intOf]; omega
        · go_wp2_with fail
          go_meet
          case rel => exact ⟨_, _, _, _, hS, by omega⟩
    case rest =>
      clear hS0
      obtain ⟨bs, vs, c, L, hS, hsum⟩ := hcut
      go_upto_block 2 with fail
      go_cut [] (fun wx => ∃ bs vs c L, OS B w wx G zs m bs vs c L ∧ sumL L 4 ≤ 64)
      case first =>
        go_wp2_with fail
        go_loopw [8] (fun s8 wr => ∃ i : Nat, i ≤ n1 ∧ s8 = .int .i64 i ∧ ∃ bs vs c L, OS B w wr G zs m bs vs c L ∧ sumL L 4 ≤ 64) (fun s8 _ => n1 - (intOf s8).toNat)
        case atStart => exact ⟨0, by omega, rfl, _, _, _, _, hS, hsum⟩
        case round =>
          clear hS hsum
          obtain ⟨i, hin, rfl, bs, vs, c, L, hS, hsum⟩ := hrel
          by_cases hlt : i < n1
          · by_cases hm1' : 0 < m
            · obtain ⟨g, off, cap', hv, _, _, hcell⟩ := (r1.below hsz hS.q.below).at (by omega)
              simp at hv
              obtain ⟨rfl, rfl⟩ := hv
              obtain ⟨y, hy⟩ : ∃ y, ys[i]? = some y := ⟨ys[i]'(by have := HL1.out; omega), List.getElem?_eq_getElem _⟩
              have hck := hcell i (by omega)
              rw [show (ys.map (Value.int .u8))[i]? = some (.int .u8 y) by simp [hy]] at hck
              clear hcell
              obtain ⟨hz1, hz2⟩ := HY.out y (List.mem_of_getElem? hy)
              clear hy
              have hmz : ((m : Int) == 0) = false := by simp; omega
              obtain ⟨k, hk, hkm⟩ : ∃ k : Nat, y % (m : Int) = k ∧ k < m := by
                have h1 := Int.emod_nonneg y (show (m : Int) ≠ 0 by omega)
                have h2 := Int.emod_lt_of_pos y (show (0 : Int) < m by omega)
                exact ⟨(y % (m : Int)).toNat, by omega, by omega⟩
              obtain ⟨z, hz⟩ : ∃ z, zs[k]? = some z := ⟨zs[k]'(by have := HL.out; omega), List.getElem?_eq_getElem _⟩
              go_wp2_with fail
              by_cases hbk : bs k = true
              · have hin : ((k : Int) + 1) ∈ L (1 + z % 4) := (hS.left.mem _ _ (by omega) (by omega)).2 ⟨k, z, rfl, hkm, hbk, hz, rfl⟩
                refine (Pick_yes _ _ _ _ _ _ _ hS.q.q ⟨_, by omega, by omega, hin⟩ (by omega)).mono ?_
                rintro e w2 ⟨rfl, j, i', j1, j4, hji, hp⟩
                obtain ⟨vs2, hq2, hkp⟩ := hS.q.step2 hp
                obtain ⟨hb2, hn2⟩ := hkp G _ hS.blk hS.ng
                have hS2 := OS.store hq2 hb2 hn2 k false (hS.left.out j1 j4 hji) hS.c0 hS.c8 hS.hG
                have hsl := sumL_set L j (cutAt (L j) i') j1 j4
                have hcl : (cutAt (L j) i').length ≤ (L j).length := by simp [cutAt]; omega
                have HN := Lib.hid (show sumL (setL L j (cutAt (L j) i')) 4 ≤ 64 by omega)
                have ck := blk_cell hb2 k
                rw [rowf_get _ _ _ (by omega), hbk] at ck
                have fk := blk_free hb2 k
                clear hp hq2 hkp hb2 hn2 hsl hcl hin hji
                go_wp2_with fail
                go_roundw
                case rel => exact ⟨i + 1, by omega, by go_num, _, _, _, _, hS2, HN.out⟩
                case measure => simp [intOf]; omega
              · have hbk' : bs k = false := by simpa using hbk
                have hno : ∀ j, 1 ≤ j → j ≤ 4 → ((k : Int) + 1) ∉ L j := fun j j1 j4 hj => by
                  obtain ⟨i, y, e1, e2, e3, _⟩ := (hS.left.mem j _ j1 j4).1 hj
                  obtain rfl : i = k := by omega
                  exact hbk e3
                refine (Pick_no _ _ _ _ _ _ _ hS.q.q hno).mono ?_
                rintro e w2 ⟨rfl, rfl⟩
                have hS2 := OS.store hS.q hS.blk hS.ng k false (hS.left.congr (fun i _ => by unfold upd; split <;> simp_all)) hS.c0 hS.c8 hS.hG
                have ck := blk_cell hS.blk k
                rw [rowf_get _ _ _ (by omega), hbk'] at ck
                have fk := blk_free hS.blk k
                clear hno
                go_wp2_with fail
                go_roundw
                case rel => exact ⟨i + 1, by omega, by go_num, _, _, _, _, hS2, hsum⟩
                case measure => simp [intOf]; omega
            · go_wp2_with fail
              go_meet
              case rel => exact ⟨_, _, _, _, hS, hsum⟩
          · go_wp2_with fail
            go_meet
            case rel => exact ⟨_, _, _, _, hS, hsum⟩
      case rest =>
        clear hS hsum
        obtain ⟨bs, vs, c, L, hS, hsum⟩ := hcut
        obtain ⟨G2, hG2⟩ : ∃ G2, wc.heap.size = G2 := ⟨_, rfl⟩
        have hGne : G ≠ G2 := by have := blk_lt hS.blk; omega
        have hL0 : LS B (wc.alloc (.cells (rowf 4 fun _ => .int .i64 0) 33)) G2 (fun _ => 0) vs L := by
          refine ⟨?_, fun hb => ?_, by have := hS.q.size; omega, fun i hi y hy => ?_⟩
          · rw [← hG2]; exact heap_alloc_new wc _
          · have := hS.q.q.lt G2 hb; omega
          · obtain ⟨i', z, e, _⟩ := (hS.left.mem _ y (by omega) (by omega)).1 hy
            omega
        have hS0 : OS B w (wc.alloc (.cells (rowf 4 fun _ => .int .i64 0) 33)) G zs m bs vs c L :=
          ⟨hS.q.keep ((Fr.refl (fun _ => False) _).alloc _) (fun _ _ h => h) (fun _ h => h.elim), blk_alloc hS.blk, hS.ng, hS.left, hS.c0, hS.c8, hS.hG⟩
        clear hS
        go_upto_block 4 with fail
        go_cut [] (fun wx => ∃ bs vs c L, OS B w wx G zs m bs vs c L ∧ ∀ j, 1 ≤ j → j ≤ 4 → L j = [])
        case first =>
          go_wp2_with fail
          go_loopw [12] (fun s12 wr => ∃ t : Nat, s12 = .int .i64 t ∧ ∃ bs ls vs c L, OS B w wr G zs m bs vs c L ∧ LS B wr G2 ls vs L ∧ t + sumL L 4 ≤ 64) (fun s12 _ => 65 - (intOf s12).toNat)
          case atStart => exact ⟨0, rfl, _, _, _, _, _, hS0, hL0, by omega⟩
          case round =>
            clear hS0 hL0 hsum
            obtain ⟨t, rfl, bs, ls, vs, c, L, hS, hLS, hsum⟩ := hrel
            by_cases h0 : qturn L c = 0
            · have HT := Lib.hid h0
              clear h0
              go_wp2_with fail
              refine (Next_none _ _ _ _ _ _ hS.q.q HT.out).mono ?_
              rintro e w2 ⟨rfl, hp⟩
              obtain ⟨vs2, hq2, hkp⟩ := hS.q.step2 hp
              obtain ⟨hb2, hn2⟩ := hkp G _ hS.blk hS.ng
              have hS2 : OS B w w2 G zs m bs vs2 c L := ⟨hq2, hb2, hn2, hS.left, hS.c0, hS.c8, hS.hG⟩
              clear hp hq2 hkp
              go_wp2_with fail
              go_meet
              case rel => exact ⟨_, _, _, _, hS2, turn_none HT.out⟩
            · have hr := qturn_range L c
              obtain ⟨kk, hkk⟩ : ∃ kk, qturn L c = kk := ⟨_, rfl⟩
              rw [hkk] at hr h0
              obtain ⟨x, r, hx⟩ := turn_head hkk (by omega)
              obtain ⟨k, z, hxk, hkm, hbk, hz, hzk⟩ := (hS.left.mem kk x (by omega) (by omega)).1 (by rw [hx]; simp)
              obtain ⟨pp, hpp⟩ : ∃ pp : Nat, z % 4 = pp := ⟨(z % 4).toNat, by omega⟩
              subst hxk
              have hpp4 : pp < 4 := by omega
              have hlt := hLS.lt pp hpp4 ((k : Int) + 1) (by rw [show (pp : Int) + 1 = kk by omega, hx]; simp)
              have hcut : cutAt (L kk) 0 = r := by rw [hx]; simp [cutAt]
              have hleft := hS.left.out (k := k) (j := kk) (i := 0) (by omega) (by omega) (by rw [hx]; rfl)
              rw [hcut] at hleft
              have hsl := sumL_set L kk r (by omega) (by omega)
              rw [hx] at hsl
              simp only [List.length_cons] at hsl
              have hrp : ∀ y ∈ r, (k : Int) + 1 < y := fun y hy => by
                have := hS.left.inc kk (by omega) (by omega)
                rw [hx] at this
                exact (List.pairwise_cons.1 this).1 y hy
              obtain ⟨g, off, cap', hv, _, _, hcell⟩ := (r2.below hsz hS.q.below).at (by omega)
              simp at hv
              obtain ⟨rfl, rfl⟩ := hv
              have HC := Lib.hid hcell
              obtain ⟨hz1, hz2⟩ := HZ.out z (List.mem_of_getElem? hz)
              have HT := Lib.hid hkk
              have HX := Lib.hid hx
              have ht64 : t < 65 := by omega
              clear hcell hkk hx
              go_wp2_with fail
              refine (Next_some _ _ _ _ _ _ hS.q.q kk HT.out (by omega) _ r HX.out hS.c0 hS.c8).mono ?_
              rintro e w2 ⟨rfl, hp⟩
              obtain ⟨vs2, hq2, hkp⟩ := hS.q.step2 hp
              obtain ⟨hb2, hn2⟩ := hkp G _ hS.blk hS.ng
              obtain ⟨hl2, hnl2⟩ := hkp G2 _ hLS.blk hLS.ng
              have hcr := qcount_range (k := kk) hS.c0 hS.c8
              have hS3 := OS.store hq2 hb2 hn2 k false hleft hcr.1 hcr.2 hS.hG
              have hl3 : (w2.setCell ⟨G, k, none⟩ (.bool false)).heap[G2]? = some (.cells (rowf 4 fun i => .int .i64 (ls i)) 33 (0, 0)) := by
                rw [blk_set_other _ (by simpa using Ne.symm hGne)]; exact hl2
              have hS4 := hS3.set2 hLS.hG hGne hnl2 pp (.int .i64 ((k : Int) + 1))
              have hL4 : LS B ((w2.setCell ⟨G, k, none⟩ (.bool false)).setCell ⟨G2, pp, none⟩ (.int .i64 ((k : Int) + 1))) G2 (upd ls pp ((k : Int) + 1)) vs2 (setL L kk r) := by
                refine LS.store hl3 hnl2 hLS.hG pp _ (fun i hi y hy => ?_)
                unfold upd
                unfold setL at hy
                by_cases e : i = pp
                · rw [if_pos e]
                  rw [if_pos (by omega)] at hy
                  exact hrp y hy
                · rw [if_neg e]
                  rw [if_neg (by omega)] at hy
                  exact hLS.lt i hi y hy
              have hck := (HC.out k (by omega))
              have hbel : Below B w (w2.setCell ⟨G, k, none⟩ (.bool false)) := hS3.q.below
              obtain ⟨_, _, _, hv', _, _, hcell2⟩ := (r2.below hsz hbel).at (by omega)
              simp at hv'
              obtain ⟨⟨rfl, rfl⟩, rfl⟩ := hv'
              have hck2 := hcell2 k (by omega)
              rw [List.getElem?_take, if_pos (by omega), show (zs.map (Value.int .u8))[k]? = some (.int .u8 z) by simp [hz]] at hck2
              have ck := blk_cell hb2 k
              rw [rowf_get _ _ _ (by omega), hbk] at ck
              have fk := blk_free hb2 k
              have cp := blk_cell hl3 pp
              rw [rowf_get _ _ _ (by omega)] at cp
              have fp := blk_free hl3 pp
              have HR := Lib.hid hrp
              have HZk := Lib.hid hz
              clear hp hq2 hkp hb2 hn2 hl2 hnl2 hcell2 hbel hck HC hrp hz hleft hcr hS3 hl3 hLS hcut
              go_wp2_with fail
              go_roundw
              case rel => exact ⟨t + 1, by go_num, _, _, _, _, _, hS4, hL4, by omega⟩
              case measure => simp [intOf]; omega
        case rest =>
          clear hS0 hL0 hsum
          obtain ⟨bs, vs, c, L, hS, hemp⟩ := hcut
          have hbf : ∀ i, i < m → bs i = false := fun i hi => by
            cases hb : bs i
            · rfl
            · obtain ⟨z, hz⟩ : ∃ z, zs[i]? = some z := ⟨zs[i]'(by have := HL.out; omega), List.getElem?_eq_getElem _⟩
              have := (hS.left.mem (1 + z % 4) _ (by omega) (by omega)).2 ⟨i, z, rfl, hi, hb, hz, rfl⟩
              rw [hemp _ (by omega) (by omega)] at this
              cases this
          have hs0 : sumL L 4 = 0 := by simp [sumL, hemp 1, hemp 2, hemp 3, hemp 4]
          clear hemp
          have HBF := Lib.hid hbf
          clear hbf
          go_upto_block 6 with fail
          go_wp2_with fail
          go_loopw [16] (fun s16 wr => ∃ i : Nat, i ≤ m ∧ s16 = .int .i64 i ∧ wr = wc) (fun s16 _ => m - (intOf s16).toNat)
          case atStart => exact ⟨0, by omega, rfl, rfl⟩
          case round =>
            obtain ⟨i, him, rfl, rfl⟩ := hrel
            by_cases hlt : i < m
            · have ck := blk_cell hS.blk i
              rw [rowf_get _ _ _ (by omega), HBF.out i hlt] at ck
              go_wp2_with fail
              go_roundw
              case rel => exact ⟨i + 1, by omega, by go_num, trivial⟩
              case measure => simp [intOf]; omega
            · go_wp2_with fail
              refine (Len_any _ _ _ _ _ _ hS.q.q (by omega)).mono ?_
              rintro e w2 ⟨rfl, rfl⟩
              rw [hs0]
              go_wp2_with fail
              refine (known_any _).mono ?_
              rintro e w5 ⟨rfl, hb⟩
              go_wp2_with fail
              go_ret
              exact ⟨rfl, by rw [HB.out]; exact hS.q.below.trans (hb.mono hS.q.size)⟩
end Go.Proofs.Ytjdinopiipmojaa
