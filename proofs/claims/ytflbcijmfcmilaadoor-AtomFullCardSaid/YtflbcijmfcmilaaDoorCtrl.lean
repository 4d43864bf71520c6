/- unescape and control. -/
import Derived.Test.YtflbcijmfcmilaaDoorHexr
namespace Go.Proofs.YtflbcijmfcmilaaDoor
open Go.RowKit

theorem unescF_of {c v : Nat} (hc : c ≠ 115) (h : escF v = c) (h0 : c ≠ 0) : unescF c = some v := by
  subst h
  rcases escF_cases v h0 with rfl | rfl | rfl | rfl | rfl | rfl | rfl | rfl <;> rfl

theorem unescF_none {c : Nat} (hc : c ≠ 115) (h : ∀ i < 128, escF i = 0 ∨ escF i ≠ c) : unescF c = none := by
  have h8 := h 8 (by omega)
  have h9 := h 9 (by omega)
  have h10 := h 10 (by omega)
  have h11 := h 11 (by omega)
  have h12 := h 12 (by omega)
  have h13 := h 13 (by omega)
  have h27 := h 27 (by omega)
  have h127 := h 127 (by omega)
  rw [show escF 8 = 98 from rfl] at h8
  rw [show escF 9 = 116 from rfl] at h9
  rw [show escF 10 = 110 from rfl] at h10
  rw [show escF 11 = 118 from rfl] at h11
  rw [show escF 12 = 102 from rfl] at h12
  rw [show escF 13 = 114 from rfl] at h13
  rw [show escF 27 = 101 from rfl] at h27
  rw [show escF 127 = 100 from rfl] at h127
  unfold unescF
  rw [if_neg hc, if_neg (by omega), if_neg (by omega), if_neg (by omega), if_neg (by omega), if_neg (by omega), if_neg (by omega), if_neg (by omega), if_neg (by omega)]

/-- What unescape answers. -/
def unescV (c : Nat) : Value := match unescF c with
  | some v => .tuple #[.int .i32 v, .bool true]
  | none => .tuple #[.int .i32 0, .bool false]

set_option maxHeartbeats 1600000 in
set_option maxRecDepth 100000 in
theorem unescape_any (c : Nat) (hc : c < 256) (w : World) : Calls Tryd.prog 75 #[.int .u8 c] w fun e w' => e = .returned (unescV c) ∧ w' = w := by
  by_cases h115 : c = 115
  · subst h115
    go_enter Tryd.func75, Tryd.ntmps75
    go_wp2_with fail
    go_ret2
    exact ⟨rfl, rfl⟩
  · have e115 : ((c : Int) == 115) = false := by simp; omega
    have H115 := Lib.hid h115
    clear h115
    go_enter Tryd.func75, Tryd.ntmps75
    go_wp2_with fail
    go_loopg [4, 5] 128 (fun g s4 s5 wr => ∃ k : Nat, k + g = 128 ∧ s4 = .int .i32 k ∧ wr = w ∧ Hid (∀ i < k, escF i = 0 ∨ escF i ≠ c))
    case atStart => exact ⟨0, rfl, rfl, rfl, Lib.hid (by omega)⟩
    case round =>
      obtain ⟨k, hk, rfl, rfl, hI⟩ := hrel
      cases gk with
      | zero =>
        have hk128 : k = 128 := by omega
        have HF : Hid (unescV c = .tuple #[.int .i32 0, .bool false]) := Lib.hid (by
          unfold unescV
          rw [unescF_none H115.out (fun i hi => hI.out i (by omega))])
        subst hk128
        clear hI
        go_wp2_with fail
        go_ret2
        exact ⟨by rw [HF.out]; rfl, rfl⟩
      | succ g =>
        obtain ⟨x, hx⟩ : ∃ x, escF k = x := ⟨_, rfl⟩
        have HX := Lib.hid hx
        have hx128 : x < 128 := by rw [← hx]; exact escF_lt k
        clear hx
        go_wp2_with fail
        refine (escape_any k _).mono ?_
        rintro e w' ⟨rfl, rfl⟩
        rw [HX.out]
        by_cases hx0 : x = 0
        · subst hx0
          have HN : Hid (∀ i < k + 1, escF i = 0 ∨ escF i ≠ c) := Lib.hid fun i hi => by
            by_cases h : i = k
            · subst h; exact .inl HX.out
            · exact hI.out i (by omega)
          clear hI
          go_wp2_with fail
          go_roundg g
          case measure => omega
          case rel => exact ⟨k + 1, by omega, by go_num, rfl, HN⟩
        · have hxz : ((x : Int) == 0) = false := by simp; omega
          have hxz2 : ((x : Int) != 0) = true := by simp; omega
          by_cases hxc : x = c
          · subst hxc
            have HF : Hid (unescV x = .tuple #[.int .i32 k, .bool true]) := Lib.hid (by
              unfold unescV
              rw [unescF_of H115.out HX.out hx0])
            clear hI
            go_wp2_with fail
            go_ret2
            exact ⟨by rw [HF.out]; rfl, rfl⟩
          · have hxcz : ((x : Int) == (c : Int)) = false := by simp; omega
            have HN : Hid (∀ i < k + 1, escF i = 0 ∨ escF i ≠ c) := Lib.hid fun i hi => by
              by_cases h : i = k
              · subst h; exact .inr (by rw [HX.out]; exact hxc)
              · exact hI.out i (by omega)
            clear hI
            go_wp2_with fail
            go_roundg g
            case measure => omega
            case rel => exact ⟨k + 1, by omega, by go_num, rfl, HN⟩

/-- Behind \^. -/
def ctrlO (l : List UInt8) : Option (Nat × Nat) := match l with
  | [] => none
  | d :: _ => (ctrl d).map fun v => (v, 1)

theorem ctrl_le {d : UInt8} {v : Nat} (h : ctrl d = some v) : v ≤ 31 ∧ okRune v = true := by
  unfold ctrl at h
  have : v ≤ 31 := by
    split at h
    · cases h; omega
    · split at h
      · cases h; omega
      · cases h
  exact ⟨this, by unfold okRune; simp; omega⟩

set_option maxHeartbeats 1600000 in
set_option maxRecDepth 100000 in
theorem control_any (b : Nat) (s : ByteArray) (pos : Nat) (bs : List Value) (bad : Bool) (hs : s.size ≤ maxLen) (hp : pos ≤ s.size) (w : World) (h : Rdr b s pos bs bad w) (hlen : bs.length + 4 ≤ 140737488355328) :
    Calls Tryd.prog 73 #[.pointer (some ⟨b, 0, none⟩)] w (EPost b s pos bs bad (ctrlO (s.data.toList.drop pos)) w) := by
  unfold maxLen at hs
  have c0 := h.c0
  have c1 := h.c1
  have f1 := h.free 1
  by_cases hlt : pos < s.size
  · obtain ⟨c, hc⟩ : ∃ c, s[pos]'hlt = c := ⟨_, rfl⟩
    have hO : ctrlO (s.data.toList.drop pos) = (ctrl c).map fun v => (v, 1) := by
      rw [drop_at hlt, hc]
      rfl
    obtain ⟨n, hn⟩ : ∃ n, c.toNat = n := ⟨_, rfl⟩
    have hn256 : n < 256 := by rw [← hn]; exact c.toNat_lt
    have hcz : (s[pos]'hlt).toNat = n := by rw [hc, hn]
    have hctl : ctrl c = if 97 ≤ n ∧ n ≤ 122 then some (n - 96) else if 64 ≤ n ∧ n ≤ 95 then some (n - 64) else none := by unfold ctrl; rw [hn]
    rw [hctl] at hO
    have HO := Lib.hid hO
    have HRD : Hid (∀ q, Rdr b s (pos + 1) bs bad ((w.drewN q).setCell ⟨b, 1, none⟩ (.int .i64 ((pos : Int) + 1)))) := Lib.hid fun q => by
      have := (h.drewN q).setPos (pos + 1)
      rwa [show (((pos + 1 : Nat) : Int)) = (pos : Int) + 1 by omega] at this
    have HBL : Hid (∀ q, Below b w ((w.drewN q).setCell ⟨b, 1, none⟩ (.int .i64 ((pos : Int) + 1)))) := Lib.hid fun q => (bel_drewN (Below.refl b w) q).setCell (p := ⟨b, 1, none⟩) (Nat.le_refl _) _
    clear hc hn hctl hO
    have hnlt : decide (s.size ≤ pos) = false := by simp; omega
    by_cases h1 : 97 ≤ n ∧ n ≤ 122
    · obtain ⟨h1, h2⟩ := h1
      obtain ⟨m, hm⟩ : ∃ m, n - 32 = m := ⟨_, rfl⟩
      obtain ⟨v, hv⟩ : ∃ v, n - 96 = v := ⟨_, rfl⟩
      have HF : Hid (ctrlO (s.data.toList.drop pos) = some (v, 1)) := Lib.hid (by rw [HO.out, if_pos ⟨h1, h2⟩, hv]; rfl)
      have hm1 : 64 ≤ m := by omega
      have hm2 : m ≤ 95 := by omega
      have hv31 : v ≤ 31 := by omega
      have hw1 : IntKind.u8.wrap ((n : Int) - 32) = (m : Int) := by rw [show (n : Int) - 32 = (m : Int) by omega]; exact IntWalk.u8_in _ (by omega)
      have hw2 : IntKind.u8.wrap ((m : Int) - 64) = (v : Int) := by rw [show (m : Int) - 64 = (v : Int) by omega]; exact IntWalk.u8_in _ (by omega)
      have hw3 : IntKind.i64.wrap (v : Int) = (v : Int) := IntWalk.i64_in _ (by omega)
      clear HO h hm hv
      go_enter Tryd.func73, Tryd.ntmps73
      go_wp2_with fail
      go_quiet (fail)
      go_wp2_with fail
      go_quiet (fail)
      go_wp2_with fail
      refine (rd_put b s (pos + 1) bs bad v (by omega) _ (HRD.out _) hlen).mono ?_
      rintro e w2 ⟨rfl, hp2⟩
      have hbl := (HBL.out _).trans hp2.2
      have HP := Lib.hid hp2.1
      have HB := Lib.hid hbl
      clear hp2 hbl
      go_wp2_with fail
      go_ret
      refine ⟨HB.out, ?_⟩
      rw [HF.out]
      exact ⟨rfl, by omega, HP.out⟩
    · by_cases h2 : 64 ≤ n ∧ n ≤ 95
      · obtain ⟨h2, h3⟩ := h2
        obtain ⟨v, hv⟩ : ∃ v, n - 64 = v := ⟨_, rfl⟩
        have HF : Hid (ctrlO (s.data.toList.drop pos) = some (v, 1)) := Lib.hid (by rw [HO.out, if_neg h1, if_pos ⟨h2, h3⟩, hv]; rfl)
        have hn97 : n < 97 := by omega
        have hv31 : v ≤ 31 := by omega
        have hw2 : IntKind.u8.wrap ((n : Int) - 64) = (v : Int) := by rw [show (n : Int) - 64 = (v : Int) by omega]; exact IntWalk.u8_in _ (by omega)
        have hw3 : IntKind.i64.wrap (v : Int) = (v : Int) := IntWalk.i64_in _ (by omega)
        clear HO h hv h1
        go_enter Tryd.func73, Tryd.ntmps73
        go_wp2_with fail
        go_quiet (fail)
        go_wp2_with fail
        go_quiet (fail)
        go_wp2_with fail
        refine (rd_put b s (pos + 1) bs bad v (by omega) _ (HRD.out _) hlen).mono ?_
        rintro e w2 ⟨rfl, hp2⟩
        have hbl := (HBL.out _).trans hp2.2
        have HP := Lib.hid hp2.1
        have HB := Lib.hid hbl
        clear hp2 hbl
        go_wp2_with fail
        go_ret
        refine ⟨HB.out, ?_⟩
        rw [HF.out]
        exact ⟨rfl, by omega, HP.out⟩
      · have HF : Hid (ctrlO (s.data.toList.drop pos) = none) := Lib.hid (by rw [HO.out, if_neg h1, if_neg h2]; rfl)
        have h3 : n < 64 ∨ (95 < n ∧ n < 97) ∨ 122 < n := by omega
        clear HO h h1 h2
        rcases h3 with h3 | ⟨h3, h4⟩ | h3
        all_goals
          go_enter Tryd.func73, Tryd.ntmps73
          go_wp2_with fail
          go_quiet (fail)
          go_wp2_with fail
          go_quiet (fail)
          go_wp2_with fail
          go_ret
          refine ⟨HBL.out _, ?_⟩
          rw [HF.out]
          rfl
  · have HF : Hid (ctrlO (s.data.toList.drop pos) = none) := Lib.hid (by rw [drop_end (by omega)]; rfl)
    have hnlt : decide (s.size ≤ pos) = true := by simp; omega
    clear h
    go_enter Tryd.func73, Tryd.ntmps73
    go_wp2_with fail
    go_quiet (fail)
    go_wp2_with fail
    go_ret
    refine ⟨bel_drewN (Below.refl b w) _, ?_⟩
    rw [HF.out]
    rfl
end Go.Proofs.YtflbcijmfcmilaaDoor
