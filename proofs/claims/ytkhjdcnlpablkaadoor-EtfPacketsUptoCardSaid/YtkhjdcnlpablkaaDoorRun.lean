/- run: how many conses stand one in another. -/
import Derived.Test.YtkhjdcnlpablkaaDoorEnc
namespace Go.Proofs.YtkhjdcnlpablkaaDoor
open Go.RowKit

/-- A slice that stays readable whatever is done at B and behind it. -/
def RdU (B : Nat) (w : World) (size : Nat) (v : Value) (n : Nat) (xs : List Value) : Prop := ∀ W, Below B w W → Rd W size v n xs
theorem RdU.of {B : Nat} {w : World} {size n : Nat} {v : Value} {xs : List Value} (h : Rd w size v n xs) (hB : w.heap.size ≤ B) : RdU B w size v n xs := fun _ hb => h.below hB hb
theorem RdU.step {B : Nat} {w w' : World} {size n : Nat} {v : Value} {xs : List Value} (h : RdU B w size v n xs) (hb : Below B w w') : RdU B w' size v n xs := fun W hW => h W (hb.trans hW)
theorem RdU.now {B : Nat} {w : World} {size n : Nat} {v : Value} {xs : List Value} (h : RdU B w size v n xs) : Rd w size v n xs := h w (Below.refl _ _)

set_option maxHeartbeats 3200000 in
set_option maxRecDepth 100000 in
theorem run_any (t : List Ce) (v : Value) (hlen : t.length ≤ 1024) (at' : Nat) (a : T) (r : List Ce) (hw : a.wf) (hd : t.drop at' = a.cells ++ r) (w : World) (hrd : Rd w 3 v t.length (cvs t)) :
    Calls Tryd.prog 82 #[v, .int .i64 at'] w fun e w' => e = .returned (.tuple #[.int .i64 (runLen a), .int .i64 ((at' + spLen a : Nat) : Int), .bool (allB a)]) ∧ Below w.heap.size w w' := by
  obtain ⟨ao, cap, rfl, hcap, hmax⟩ := hrd.shape
  have HR := Lib.hid hrd
  unfold maxLen at hmax
  clear hrd
  have HD := Lib.hid hd
  have hal : at' + a.sz ≤ t.length := by
    have := congrArg List.length hd
    rw [List.length_drop, List.length_append] at this
    have h1 := sz_pos a
    unfold T.sz at *
    omega
  have ha : a.sz ≤ 1024 := by omega
  clear hd
  go_enter Tryd.func82, Tryd.ntmps82
  go_wp2_with fail
  go_loopg [1, 4, 5, 6] a.sz (fun g s1 s4 _ s6 wr => ∃ (k n : Nat) (b : Bool) (x : T), s1 = .int .i64 k ∧ s4 = .int .i64 n ∧ s6 = .bool b ∧ x.sz ≤ g ∧ k + x.sz ≤ t.length ∧ n ≤ 1024 ∧ n + x.sz ≤ a.sz ∧ Below w.heap.size w wr ∧
    Hid (x.wf ∧ t.drop k = x.cells ++ r ∧ n + runLen x = runLen a ∧ k + spLen x = at' + spLen a ∧ (b && allB x) = allB a))
  case atStart => exact ⟨at', 0, true, a, rfl, rfl, rfl, Nat.le_refl _, hal, by omega, by omega, Below.refl _ _, Lib.hid ⟨hw, HD.out, by omega, rfl, by simp⟩⟩
  case round =>
    clear hal HD
    obtain ⟨k, n, b, x, rfl, rfl, rfl, hg, hkx, hn, hnx, hbe, hI⟩ := hrel
    obtain ⟨hxw, hxd, hx1, hx2, hx3⟩ := hI.out
    have hxp := sz_pos x
    have hrd := HR.out.below (Nat.le_refl _) hbe
    obtain ⟨g0, off, cap', hv, hq1, hq2, hq3⟩ := hrd.at (by omega)
    clear hq1 hq2 hq3
    simp at hv
    obtain ⟨rfl, rfl⟩ := hv
    obtain ⟨c0, c1, c2⟩ := rd_cell hrd rfl (drop_fst hxd)
    have hkt : k < t.length := by omega
    have hkz : (k : Int) < (t.length : Int) := by omega
    by_cases h7 : x.fst.kind = 7
    · obtain ⟨h, y, rfl⟩ := (fst_seven hxw).1 h7
      have hdh : t.drop (k + 1) = h.cells ++ (y.cells ++ r) := by
        have := drop_next (m := 1) (a := [consC]) (r := h.cells ++ (y.cells ++ r)) (by rw [hxd]; simp [T.cells]) rfl
        exact this
      have hsz := sz_cons h y
      have hp1 := sz_pos h
      have hp2 := sz_pos y
      obtain ⟨d0, d1, d2⟩ := rd_cell hrd rfl (drop_fst hdh)
      have he := end_term hxw.1 hdh
      have hby := isByte_fst hxw.1
      have hdy : t.drop (k + 1 + h.sz) = y.cells ++ r := drop_next hdh rfl
      have H1 : Hid (∀ W, Below wr.heap.size wr W → Calls Tryd.prog 89 #[.slice (some ⟨g0, off, none⟩) t.length cap, .int .i64 ((k : Int) + 1)] W fun e w' => e = .returned (.tuple #[.int .i64 ((k + 1 + h.sz : Nat) : Int), .int .i64 0]) ∧ Below W.heap.size W w') := Lib.hid (fun W hW => by
        have := end_t t (.slice (some ⟨g0, off, none⟩) t.length cap) (k + 1) hlen W (hrd.below (Nat.le_refl _) hW)
        rw [he] at this
        exact this)
      have HIN : ∀ b', (b && isByte h) = b' → Hid (y.wf ∧ t.drop (k + 1 + h.sz) = y.cells ++ r ∧ n + 1 + runLen y = runLen a ∧ k + 1 + h.sz + spLen y = at' + spLen a ∧ (b' && allB y) = allB a) := fun b' hb' => Lib.hid ⟨hxw.2, hdy, by simp only [runLen] at hx1; omega, by simp only [spLen] at hx2; omega, by rw [← hx3, ← hb']; simp only [allB, Bool.and_assoc]⟩
      have HHIN := Lib.hid HIN
      have HBY := Lib.hid hby
      obtain ⟨f, hf⟩ : ∃ f, h.fst = f := ⟨_, rfl⟩
      rw [hf] at d0 d1 d2 HBY
      have hc7 : wr.cell? ⟨g0, off + k * 3, none⟩ = some (.int .i64 7) := c0
      have hbz := hbe.size
      have HBE := Lib.hid hbe
      have HLT := Lib.hid (⟨hg, hkx, hn, hnx, hsz, hp1, hp2⟩ : (T.cons h y).sz ≤ gk ∧ k + (T.cons h y).sz ≤ t.length ∧ n ≤ 1024 ∧ n + (T.cons h y).sz ≤ a.sz ∧ (T.cons h y).sz = 1 + h.sz + y.sz ∧ 1 ≤ h.sz ∧ 1 ≤ y.sz)
      have hk1 : (k : Int) + 1 < (t.length : Int) := by omega
      clear hI hxw hxd hx1 hx2 hx3 hrd c0 c1 c2 h7 hdh he hby hdy HIN hf hbe hxp hsz hg hkx hnx
      cases b with
      | false =>
        have HN := Lib.hid (HHIN.out false rfl)
        go_wp2_with fail
        refine (H1.out _ ((Below.refl _ wr).alloc (Nat.le_refl _) _)).mono ?_
        rintro e w3 ⟨rfl, hb3⟩
        have HB3 := Lib.hid ((HBE.out.alloc hbz (.cells #[.int .i64 f.kind, .int .i64 f.n, .string f.text] 60)).trans (hb3.mono (by simp; omega)))
        clear hb3
        go_wp2_with fail
        go_roundg (gk - 1)
        case measure => have := HLT.out; omega
        case rel => exact ⟨k + 1 + h.sz, n + 1, false, y, rfl, rfl, rfl, by have := HLT.out; omega, by have := HLT.out; omega, by have := HLT.out; omega, by have := HLT.out; omega, HB3.out, HN⟩
      | true =>
        by_cases hk : f.kind = 1
        · by_cases hn0 : 0 ≤ f.n
          · by_cases hn1 : f.n < 256
            · have HN := Lib.hid (HHIN.out true (by rw [HBY.out, decide_eq_true ⟨hk, hn0, hn1⟩]; rfl))
              have q1 : (f.kind == 1) = true := by simp; omega
              have q2 : decide (0 ≤ f.n) = true := decide_eq_true hn0
              have q3 : decide (f.n < 256) = true := decide_eq_true hn1
              clear hk hn0 hn1
              go_wp2_with fail
              refine (H1.out _ ((Below.refl _ wr).alloc (Nat.le_refl _) _)).mono ?_
              rintro e w3 ⟨rfl, hb3⟩
              have HB3 := Lib.hid ((HBE.out.alloc hbz (.cells #[.int .i64 f.kind, .int .i64 f.n, .string f.text] 60)).trans (hb3.mono (by simp; omega)))
              clear hb3
              go_wp2_with fail
              go_roundg (gk - 1)
              case measure => have := HLT.out; omega
              case rel => exact ⟨k + 1 + h.sz, n + 1, true, y, rfl, rfl, rfl, by have := HLT.out; omega, by have := HLT.out; omega, by have := HLT.out; omega, by have := HLT.out; omega, HB3.out, HN.out⟩
            · have HN := Lib.hid (HHIN.out false (by rw [HBY.out, decide_eq_false (fun e => hn1 e.2.2)]; rfl))
              have q1 : (f.kind == 1) = true := by simp; omega
              have q2 : decide (0 ≤ f.n) = true := decide_eq_true hn0
              have q3 : decide (f.n < 256) = false := decide_eq_false hn1
              clear hk hn0 hn1
              go_wp2_with fail
              refine (H1.out _ ((Below.refl _ wr).alloc (Nat.le_refl _) _)).mono ?_
              rintro e w3 ⟨rfl, hb3⟩
              have HB3 := Lib.hid ((HBE.out.alloc hbz (.cells #[.int .i64 f.kind, .int .i64 f.n, .string f.text] 60)).trans (hb3.mono (by simp; omega)))
              clear hb3
              go_wp2_with fail
              go_roundg (gk - 1)
              case measure => have := HLT.out; omega
              case rel => exact ⟨k + 1 + h.sz, n + 1, false, y, rfl, rfl, rfl, by have := HLT.out; omega, by have := HLT.out; omega, by have := HLT.out; omega, by have := HLT.out; omega, HB3.out, HN.out⟩
          · have HN := Lib.hid (HHIN.out false (by rw [HBY.out, decide_eq_false (fun e => hn0 e.2.1)]; rfl))
            have q1 : (f.kind == 1) = true := by simp; omega
            have q2 : decide (0 ≤ f.n) = false := decide_eq_false hn0
            clear hk hn0
            go_wp2_with fail
            refine (H1.out _ ((Below.refl _ wr).alloc (Nat.le_refl _) _)).mono ?_
            rintro e w3 ⟨rfl, hb3⟩
            have HB3 := Lib.hid ((HBE.out.alloc hbz (.cells #[.int .i64 f.kind, .int .i64 f.n, .string f.text] 60)).trans (hb3.mono (by simp; omega)))
            clear hb3
            go_wp2_with fail
            go_roundg (gk - 1)
            case measure => have := HLT.out; omega
            case rel => exact ⟨k + 1 + h.sz, n + 1, false, y, rfl, rfl, rfl, by have := HLT.out; omega, by have := HLT.out; omega, by have := HLT.out; omega, by have := HLT.out; omega, HB3.out, HN.out⟩
        · have HN := Lib.hid (HHIN.out false (by rw [HBY.out, decide_eq_false (fun e => hk e.1)]; rfl))
          have q1 : (f.kind == 1) = false := by simp; omega
          clear hk
          go_wp2_with fail
          refine (H1.out _ ((Below.refl _ wr).alloc (Nat.le_refl _) _)).mono ?_
          rintro e w3 ⟨rfl, hb3⟩
          have HB3 := Lib.hid ((HBE.out.alloc hbz (.cells #[.int .i64 f.kind, .int .i64 f.n, .string f.text] 60)).trans (hb3.mono (by simp; omega)))
          clear hb3
          go_wp2_with fail
          go_roundg (gk - 1)
          case measure => have := HLT.out; omega
          case rel => exact ⟨k + 1 + h.sz, n + 1, false, y, rfl, rfl, rfl, by have := HLT.out; omega, by have := HLT.out; omega, by have := HLT.out; omega, by have := HLT.out; omega, HB3.out, HN.out⟩
    · have hno : runLen x = 0 ∧ spLen x = 0 ∧ allB x = true := by
        cases x with
        | leaf c => exact ⟨rfl, rfl, rfl⟩
        | tup c ks => exact ⟨rfl, rfl, rfl⟩
        | cons p q => exact (h7 rfl).elim
      have HG : Hid ((runLen a : Int) = n ∧ ((at' + spLen a : Nat) : Int) = k ∧ allB a = b) := Lib.hid ⟨by omega, by omega, by rw [← hx3, hno.2.2, Bool.and_true]⟩
      have q7 : (x.fst.kind == 7) = false := by simp; omega
      have HBE := Lib.hid hbe
      clear hI hxd hx1 hx2 hx3 hrd hno h7 hbe
      go_wp2_with fail
      go_ret3
      exact ⟨by rw [HG.out.1, HG.out.2.1, HG.out.2.2]; rfl, HBE.out⟩
end Go.Proofs.YtkhjdcnlpablkaaDoor
