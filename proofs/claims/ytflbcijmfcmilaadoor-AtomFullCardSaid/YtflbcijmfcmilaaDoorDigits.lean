/- The reader's digits. -/
import Derived.Test.YtflbcijmfcmilaaDoorRdr
import Derived.Test.YtflbcijmfcmilaaDoorShelfB
namespace Go.Proofs.YtflbcijmfcmilaaDoor
open Go.RowKit

theorem quiet_add_same {P : Program} {f : FuncId} {args : Array Value} {w : World} {a n : Nat} {v : Value}
    (h : Calls P f args (w.drewN (a + n)) fun e w' => e = .returned v ∧ w' = w.drewN (a + n)) :
    Calls P f args (w.drewN (a + n)) fun e w'' => e = .returned v ∧ ∃ m, w'' = w.drewN (a + m) :=
  h.mono fun _ _ ⟨he, hm⟩ => ⟨he, n, hm⟩

def lowF (c : Nat) : Nat := if 65 ≤ c ∧ c ≤ 90 then c + 32 else c

theorem lower_any (c : UInt8) (w : World) : Calls Tryd.prog 87 #[.int .u8 c.toNat] w fun e w' => e = .returned (.int .u8 (lowF c.toNat)) ∧ w' = w := by
  obtain ⟨n, hn⟩ : ∃ n, c.toNat = n := ⟨_, rfl⟩
  have hlt : n < 256 := by rw [← hn]; exact c.toNat_lt
  rw [hn]
  clear hn
  by_cases h : 65 ≤ n ∧ n ≤ 90
  · have HF : Hid (lowF n = n + 32) := Lib.hid (by unfold lowF; rw [if_pos h])
    obtain ⟨h1, h2⟩ := h
    go_enter Tryd.func87, Tryd.ntmps87
    go_wp2
    go_ret
    exact ⟨by rw [HF.out]; rfl, rfl⟩
  · have HF : Hid (lowF n = n) := Lib.hid (by unfold lowF; rw [if_neg h])
    have h1 : n < 65 ∨ 90 < n := by omega
    clear h
    rcases h1 with h1 | h1
    all_goals
      go_enter Tryd.func87, Tryd.ntmps87
      go_wp2
      go_ret
      exact ⟨by rw [HF.out]; rfl, rfl⟩

def hexs : ByteArray := ⟨#[48, 49, 50, 51, 52, 53, 54, 55, 56, 57, 97, 98, 99, 100, 101, 102]⟩
def digIdx (c : UInt8) : Int := Lib.indexByte hexs.data.toList (lowF c.toNat).toUInt8

theorem idx_all : ∀ n : Fin 256, (digIdx n.val.toUInt8 = -1 ∧ dig n.val.toUInt8 16 = none ∧ dig n.val.toUInt8 8 = none) ∨ (0 ≤ digIdx n.val.toUInt8 ∧ digIdx n.val.toUInt8 < 16 ∧ dig n.val.toUInt8 16 = some (digIdx n.val.toUInt8).toNat ∧ dig n.val.toUInt8 8 = if digIdx n.val.toUInt8 < 8 then some (digIdx n.val.toUInt8).toNat else none) := by decide +kernel

theorem idx_dig (c : UInt8) (base : Nat) (hb : base = 8 ∨ base = 16) : (digIdx c = -1 ∧ dig c base = none) ∨ (∃ d : Nat, d < 16 ∧ digIdx c = d ∧ dig c base = if d < base then some d else none) := by
  have h := idx_all ⟨c.toNat, c.toNat_lt⟩
  have e : c.toNat.toUInt8 = c := by simp
  simp only [e] at h
  rcases h with ⟨h1, h2, h3⟩ | ⟨h1, h2, h3, h4⟩
  · rcases hb with rfl | rfl
    · exact .inl ⟨h1, h3⟩
    · exact .inl ⟨h1, h2⟩
  · refine .inr ⟨(digIdx c).toNat, by omega, by omega, ?_⟩
    rcases hb with rfl | rfl
    · rw [h4]
      by_cases h : digIdx c < 8
      · rw [if_pos h, if_pos (by omega)]
      · rw [if_neg h, if_neg (by omega)]
    · rw [h3, if_pos (by omega)]

theorem index_any (c : UInt8) (w : World) : Calls Tryd.prog 86 #[.string ⟨#[48, 49, 50, 51, 52, 53, 54, 55, 56, 57, 97, 98, 99, 100, 101, 102]⟩, .int .u8 (lowF c.toNat)] w fun e w' => e = .returned (.int .i64 (digIdx c)) ∧ w' = w := by
  have := Tryd.strings_IndexByte hexs (lowF c.toNat) w
  simpa [digIdx, hexs] using this

/-- A number, held below. -/
def capV (v : Nat) : Nat := min v 4294967296

theorem capV_zero : capV 0 = 0 := Nat.min_eq_left (by omega)
theorem okCap (v : Nat) : okRune (capV v) = okRune v := by
  unfold okRune capV
  rw [Bool.eq_iff_iff]
  simp
  omega
theorem okCap_eq {v : Nat} (h : okRune v = true) : capV v = v := by
  have : v < 55296 ∨ (57344 ≤ v ∧ v ≤ 1114111) := by simpa [okRune] using h
  unfold capV
  omega
theorem capV_le (v : Nat) : capV v ≤ 4294967296 := by unfold capV; omega

theorem readNum_step (base k : Nat) (c : UInt8) (t : List UInt8) (n : Nat) : readNum base (k + 1) (c :: t) n = match dig c base with | none => (n, 0) | some d => ((readNum base k t (n * base + d)).1, (readNum base k t (n * base + d)).2 + 1) := rfl

theorem readNum_zero (base : Nat) (l : List UInt8) (n : Nat) : readNum base 0 l n = (n, 0) := rfl
theorem readNum_nil (base k n : Nat) : readNum base k [] n = (n, 0) := by cases k <;> rfl

/-- What digits leaves. -/
def DPost (b : Nat) (s : ByteArray) (pos : Nat) (bs : List Value) (bad : Bool) (least r j : Nat) (w : World) (e : Ending) (w' : World) : Prop :=
  e = .returned (.bool (decide (least ≤ j))) ∧ pos + j ≤ s.size ∧ Below b w w' ∧ (least ≤ j → RPost b s (pos + j) (if okRune r then bs ++ Lib.runeCells r else bs) (if okRune r then bad else true) w w')

set_option maxHeartbeats 6400000 in
set_option maxRecDepth 100000 in
theorem digits_any (b : Nat) (s : ByteArray) (pos : Nat) (bs : List Value) (bad : Bool) (base least most r j : Nat) (hbase : base = 8 ∨ base = 16) (_ : least ≤ 3) (hm : most ≤ maxLen) (hs : s.size ≤ maxLen) (hp : pos ≤ s.size) (w : World) (h : Rdr b s pos bs bad w) (hlen : bs.length + 4 ≤ 140737488355328)
    (hrj : readNum base most (s.data.toList.drop pos) 0 = (r, j)) :
    Calls Tryd.prog 74 #[.pointer (some ⟨b, 0, none⟩), .int .i64 base, .int .i64 least, .int .i64 most] w (DPost b s pos bs bad least r j w) := by
  have hm' := hm
  unfold maxLen at hm' hs
  have HRJ := Lib.hid hrj
  have hbw := h.lt
  have hb16 : base ≤ 16 := by omega
  have hb8 : 8 ≤ base := by omega
  have HBASE := Lib.hid hbase
  clear hrj hbase
  go_enter Tryd.func74, Tryd.ntmps74
  go_wp2_with fail
  go_loopg [9, 10, 11] most (fun g s9 s10 s11 wr => ∃ k v : Nat, k + g = most ∧ pos + k ≤ s.size ∧ s9 = .int .i64 (capV v) ∧ s10 = .int .i64 k ∧ Rdr b s (pos + k) bs bad wr ∧ Below b w wr ∧ Hid ((r, j) = ((readNum base g (s.data.toList.drop (pos + k)) v).1, k + (readNum base g (s.data.toList.drop (pos + k)) v).2)))
  case atStart => exact ⟨0, 0, by omega, by omega, by rw [capV_zero]; rfl, rfl, h, Below.refl _ _, Lib.hid (by simp only [Nat.add_zero, Nat.zero_add]; exact HRJ.out.symm)⟩
  case round =>
    clear h
    obtain ⟨k, v, hk, hpk, rfl, rfl, h, hB, hI⟩ := hrel
    have c0 := h.c0
    have c1 := h.c1
    have hput : ∀ (wx w2 : World), Below b w wx → RPost b s (pos + k) (if okRune (capV v) then bs ++ Lib.runeCells (capV v) else bs) (if okRune (capV v) then bad else true) wx w2 → RPost b s (pos + k) (if okRune v then bs ++ Lib.runeCells v else bs) (if okRune v then bad else true) w w2 := by
      intro wx w2 hbx hp2
      rw [okCap] at hp2
      refine ⟨?_, hbx.trans hp2.2⟩
      have h1 := hp2.1
      by_cases hok : okRune v = true
      · rw [if_pos hok, if_pos hok, okCap_eq hok] at h1
        rw [if_pos hok, if_pos hok]
        exact h1
      · rw [if_neg hok, if_neg hok] at h1
        rw [if_neg hok, if_neg hok]
        exact h1
    have HPUT := Lib.hid hput
    have hcv := capV_le v
    clear hput
    by_cases hg : gk = 0
    · subst hg
      have hI0 := hI.out
      rw [readNum_zero] at hI0
      obtain ⟨hr0, hj0⟩ := Prod.mk.inj hI0
      have HR : Hid (r = v) := Lib.hid hr0
      have HJ : Hid (j = k) := Lib.hid hj0
      clear hI0 hr0 hj0
      have hkm : decide (k < most) = false := by simp; omega
      clear hI
      by_cases hkl : k < least
      · have HD0 : Hid (decide (least ≤ j) = false) := Lib.hid (by rw [HJ.out]; simp; omega)
        have hkl' : decide (k < least) = true := by simp; omega
        go_wp2_with fail
        go_quiet (fail)
        go_wp2_with fail
        go_ret
        exact ⟨by rw [HD0.out]; rfl, by rw [HJ.out]; omega, bel_drewN hB _, fun h => absurd h (by rw [HJ.out]; omega)⟩
      · have HD0 : Hid (decide (least ≤ j) = true) := Lib.hid (by rw [HJ.out]; simp; omega)
        have hkl' : decide (k < least) = false := by simp; omega
        go_wp2_with fail
        go_quiet (fail)
        go_wp2_with fail
        refine (rd_put b s (pos + k) bs bad (capV v) (capV_le v) _ (h.drewN _) hlen).mono ?_
        rintro e w2 ⟨rfl, hp2⟩
        have hp3 := HPUT.out _ _ (bel_drewN hB _) hp2
        go_wp2_with fail
        go_ret
        exact ⟨by rw [HD0.out]; rfl, by rw [HJ.out]; omega, hp3.2, fun _ => by rw [HR.out, HJ.out]; exact hp3⟩
    · have hkm : decide (k < most) = true := by simp; omega
      by_cases hlt : pos + k < s.size
      · have hd := drop_at hlt
        obtain ⟨g, rfl⟩ : ∃ g, gk = g + 1 := ⟨gk - 1, by omega⟩
        obtain ⟨c, hc⟩ : ∃ c, s[pos + k]'hlt = c := ⟨_, rfl⟩
        rw [hc] at hd
        have hcz : (s[pos + k]'hlt).toNat = c.toNat := by rw [hc]
        have hpp : (0 : Int) ≤ (pos : Int) + (k : Int) := by omega
        obtain ⟨x, hx⟩ : ∃ x, digIdx c = x := ⟨_, rfl⟩
        have hidx := fun w => index_any c w
        rw [hx] at hidx
        have HIDX := Lib.hid hidx
        have HLOW : Hid (∀ w, Calls Tryd.prog 87 #[.int .u8 c.toNat] w fun e w' => e = .returned (.int .u8 (lowF c.toNat)) ∧ w' = w) := Lib.hid fun w => lower_any c w
        have hstep := hI.out
        rw [hd, readNum_step] at hstep
        have hcase := idx_dig c base HBASE.out
        rw [hx] at hcase
        clear hidx hI hd hx
        rcases hcase with ⟨rfl, hdg⟩ | ⟨d, hd16, rfl, hdg⟩
        · rw [hdg] at hstep
          obtain ⟨hr0, hj0⟩ := Prod.mk.inj hstep
          have HR : Hid (r = v) := Lib.hid hr0
          have HJ : Hid (j = k) := Lib.hid hj0
          clear hr0 hj0
          clear hstep hdg
          by_cases hkl : k < least
          · have HD0 : Hid (decide (least ≤ j) = false) := Lib.hid (by rw [HJ.out]; simp; omega)
            have hkl' : decide (k < least) = true := by simp; omega
            go_wp2_with fail
            go_quiet (fail)
            go_wp2_with fail
            go_quiet ((first | (go_at_call 87; exact quiet_add_same (HLOW.out _)) | (go_at_call 86; exact quiet_add_same (HIDX.out _))))
            go_wp2_with fail
            go_ret
            exact ⟨by rw [HD0.out]; rfl, by rw [HJ.out]; omega, bel_drewN hB _, fun h => absurd h (by rw [HJ.out]; omega)⟩
          · have HD0 : Hid (decide (least ≤ j) = true) := Lib.hid (by rw [HJ.out]; simp; omega)
            have hkl' : decide (k < least) = false := by simp; omega
            go_wp2_with fail
            go_quiet (fail)
            go_wp2_with fail
            go_quiet ((first | (go_at_call 87; exact quiet_add_same (HLOW.out _)) | (go_at_call 86; exact quiet_add_same (HIDX.out _))))
            go_wp2_with fail
            refine (rd_put b s (pos + k) bs bad (capV v) (capV_le v) _ (h.drewN _) hlen).mono ?_
            rintro e w2 ⟨rfl, hp2⟩
            have hp3 := HPUT.out _ _ (bel_drewN hB _) hp2
            go_wp2_with fail
            go_ret
            exact ⟨by rw [HD0.out]; rfl, by rw [HJ.out]; omega, hp3.2, fun _ => by rw [HR.out, HJ.out]; exact hp3⟩
        · by_cases hdb : d < base
          · rw [hdg, if_pos hdb] at hstep
            have HN : Hid ((r, j) = ((readNum base g (s.data.toList.drop (pos + (k + 1))) (v * base + d)).1, (k + 1) + (readNum base g (s.data.toList.drop (pos + (k + 1))) (v * base + d)).2)) := Lib.hid (by
              rw [hstep]
              show ((readNum base g (s.data.toList.drop (pos + (k + 1))) (v * base + d)).1, k + ((readNum base g (s.data.toList.drop (pos + (k + 1))) (v * base + d)).2 + 1)) = _
              congr 1
              omega)
            obtain ⟨p, hpv⟩ : ∃ p : Nat, capV v * base = p := ⟨_, rfl⟩
            have hpl : p ≤ 68719476736 := by
              rw [← hpv]
              exact Nat.le_trans (Nat.mul_le_mul hcv hb16) (by omega)
            have HP : Hid (min ((p : Int) + (d : Int)) 4294967296 = ((capV (v * base + d) : Nat) : Int)) := Lib.hid (by
              unfold capV at hpv ⊢
              rcases HBASE.out with rfl | rfl <;> omega)
            have hw2 : IntKind.i64.wrap ((p : Int) + (d : Int)) = (p : Int) + (d : Int) := IntWalk.i64_in _ (by omega)
            have hw1 : IntKind.i64.wrap ((capV v : Int) * (base : Int)) = (p : Int) := by
              rw [← hpv, Int.natCast_mul]
              refine IntWalk.i64_in _ ?_
              rw [← Int.natCast_mul, hpv]
              clear hpv
              omega
            have f1 := h.free 1
            have HRD : Hid (∀ q, Rdr b s (pos + (k + 1)) bs bad ((wr.drewN q).setCell ⟨b, 1, none⟩ (.int .i64 ((pos : Int) + (k : Int) + 1)))) := Lib.hid fun q => by
              have := (h.drewN q).setPos (pos + (k + 1))
              rwa [show (((pos + (k + 1) : Nat) : Int)) = (pos : Int) + (k : Int) + 1 by omega] at this
            have HBL : Hid (∀ q, Below b w ((wr.drewN q).setCell ⟨b, 1, none⟩ (.int .i64 ((pos : Int) + (k : Int) + 1)))) := Lib.hid fun q => (bel_drewN hB q).setCell (p := ⟨b, 1, none⟩) (Nat.le_refl _) _
            clear hstep hdg hpv
            go_wp2_with fail
            go_quiet (fail)
            go_wp2_with fail
            go_quiet ((first | (go_at_call 87; exact quiet_add_same (HLOW.out _)) | (go_at_call 86; exact quiet_add_same (HIDX.out _))))
            go_wp2_with fail
            go_roundg g
            case measure => omega
            case rel => exact ⟨k + 1, v * base + d, by omega, by omega, by rw [HP.out], by go_num, HRD.out _, HBL.out _, HN⟩
          · rw [hdg, if_neg hdb] at hstep
            obtain ⟨hr0, hj0⟩ := Prod.mk.inj hstep
            have HR : Hid (r = v) := Lib.hid hr0
            have HJ : Hid (j = k) := Lib.hid hj0
            clear hr0 hj0
            have hdb' : base ≤ d := by omega
            clear hstep hdg hdb
            by_cases hkl : k < least
            · have HD0 : Hid (decide (least ≤ j) = false) := Lib.hid (by rw [HJ.out]; simp; omega)
              have hkl' : decide (k < least) = true := by simp; omega
              go_wp2_with fail
              go_quiet (fail)
              go_wp2_with fail
              go_quiet ((first | (go_at_call 87; exact quiet_add_same (HLOW.out _)) | (go_at_call 86; exact quiet_add_same (HIDX.out _))))
              go_wp2_with fail
              go_ret
              exact ⟨by rw [HD0.out]; rfl, by rw [HJ.out]; omega, bel_drewN hB _, fun h => absurd h (by rw [HJ.out]; omega)⟩
            · have HD0 : Hid (decide (least ≤ j) = true) := Lib.hid (by rw [HJ.out]; simp; omega)
              have hkl' : decide (k < least) = false := by simp; omega
              go_wp2_with fail
              go_quiet (fail)
              go_wp2_with fail
              go_quiet ((first | (go_at_call 87; exact quiet_add_same (HLOW.out _)) | (go_at_call 86; exact quiet_add_same (HIDX.out _))))
              go_wp2_with fail
              refine (rd_put b s (pos + k) bs bad (capV v) (capV_le v) _ (h.drewN _) hlen).mono ?_
              rintro e w2 ⟨rfl, hp2⟩
              have hp3 := HPUT.out _ _ (bel_drewN hB _) hp2
              go_wp2_with fail
              go_ret
              exact ⟨by rw [HD0.out]; rfl, by rw [HJ.out]; omega, hp3.2, fun _ => by rw [HR.out, HJ.out]; exact hp3⟩
      · have HF : Hid ((r, j) = (v, k)) := Lib.hid (by
          rw [hI.out, drop_end (s := s) (m := pos + k) (by omega), readNum_nil]
          rfl)
        obtain ⟨hr0, hj0⟩ := Prod.mk.inj HF.out
        have HR : Hid (r = v) := Lib.hid hr0
        have HJ : Hid (j = k) := Lib.hid hj0
        clear hr0 hj0
        clear HF hI
        by_cases hkl : k < least
        · have HD0 : Hid (decide (least ≤ j) = false) := Lib.hid (by rw [HJ.out]; simp; omega)
          have hkl' : decide (k < least) = true := by simp; omega
          go_wp2_with fail
          go_quiet (fail)
          go_wp2_with fail
          go_ret
          exact ⟨by rw [HD0.out]; rfl, by rw [HJ.out]; omega, bel_drewN hB _, fun h => absurd h (by rw [HJ.out]; omega)⟩
        · have HD0 : Hid (decide (least ≤ j) = true) := Lib.hid (by rw [HJ.out]; simp; omega)
          have hkl' : decide (k < least) = false := by simp; omega
          go_wp2_with fail
          go_quiet (fail)
          go_wp2_with fail
          refine (rd_put b s (pos + k) bs bad (capV v) (capV_le v) _ (h.drewN _) hlen).mono ?_
          rintro e w2 ⟨rfl, hp2⟩
          have hp3 := HPUT.out _ _ (bel_drewN hB _) hp2
          go_wp2_with fail
          go_ret
          exact ⟨by rw [HD0.out]; rfl, by rw [HJ.out]; omega, hp3.2, fun _ => by rw [HR.out, HJ.out]; exact hp3⟩
end Go.Proofs.YtflbcijmfcmilaaDoor
