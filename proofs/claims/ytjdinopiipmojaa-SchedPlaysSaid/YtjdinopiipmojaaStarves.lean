/- SchedStarves: nobody starves. -/
import Derived.Test.YtjdinopiipmojaaKnown
import Derived.Deep.CutBlock
import Derived.Deep.DeepCutAuto
namespace Go.Proofs.Ytjdinopiipmojaa
open Go.RowKit

theorem turn_head {L : Int → List Int} {c k : Int} (h : qturn L c = k) (k1 : 1 ≤ k) : ∃ x r, L k = x :: r := by
  have : L k ≠ [] := by
    unfold qturn at h
    split at h
    · subst h; assumption
    split at h
    · subst h; assumption
    split at h
    · rename_i h2; subst h; exact h2.1
    split at h
    · subst h; assumption
    · omega
  cases hl : L k with
  | nil => exact absurd hl this
  | cons x r => exact ⟨x, r, rfl⟩

def Ev (zs : List Int) (m : Nat) (x r : Int) : Prop := ∃ (i : Nat) (z : Int), i < m ∧ x = 100 + (i : Int) ∧ zs[i]? = some z ∧ z % 2 = r

structure Inv (zs : List Int) (m : Nat) (L : Int → List Int) (c : Int) : Prop where
  l3 : L 3 = []
  l4 : L 4 = []
  len : (L 1).length + (L 2).length ≤ m
  e1 : ∀ x ∈ L 1, Ev zs m x 0
  e2 : ∀ x ∈ L 2, Ev zs m x 1
  nd : (L 2).Nodup
  c0 : 0 ≤ c
  c8 : c ≤ 8

theorem Ev.mono {zs : List Int} {m m' : Nat} {x r : Int} (h : Ev zs m x r) (hm : m ≤ m') : Ev zs m' x r := by
  obtain ⟨i, z, h1, h2⟩ := h
  exact ⟨i, z, by omega, h2⟩

theorem Inv.no {zs : List Int} {m : Nat} {L : Int → List Int} {c : Int} (h : Inv zs m L c) {x : Int} (hx : x < 100 ∨ 100 + (m : Int) ≤ x) : ∀ j, 1 ≤ j → j ≤ 4 → x ∉ L j := by
  intro j j1 j4 hj
  have : j = 1 ∨ j = 2 ∨ j = 3 ∨ j = 4 := by omega
  rcases this with rfl | rfl | rfl | rfl
  · obtain ⟨i, z, h1, h2, _⟩ := h.e1 x hj; omega
  · obtain ⟨i, z, h1, h2, _⟩ := h.e2 x hj; omega
  · rw [h.l3] at hj; cases hj
  · rw [h.l4] at hj; cases hj

theorem Inv.sum {zs : List Int} {m : Nat} {L : Int → List Int} {c : Int} (h : Inv zs m L c) : sumL L 4 ≤ m := by
  have h1 := h.len
  have h3 := h.l3
  have h4 := h.l4
  simp [sumL, h3, h4]
  exact h1

theorem Inv.add {zs : List Int} {m : Nat} {L : Int → List Int} {c z : Int} (h : Inv zs m L c) (hz : zs[m]? = some z) : Inv zs (m + 1) (setL L (1 + z % 2) (L (1 + z % 2) ++ [100 + (m : Int)])) c := by
  have h1 := h.len
  have : z % 2 = 0 ∨ z % 2 = 1 := by omega
  rcases this with e | e
  · rw [e]
    refine ⟨by simpa [setL] using h.l3, by simpa [setL] using h.l4, by simp [setL]; omega, fun x hx => ?_, fun x hx => ?_, by simpa [setL] using h.nd, h.c0, h.c8⟩
    · simp [setL] at hx
      rcases hx with hx | rfl
      · exact (h.e1 x hx).mono (by omega)
      · exact ⟨m, z, by omega, rfl, hz, e⟩
    · simp [setL] at hx
      exact (h.e2 x hx).mono (by omega)
  · rw [e]
    refine ⟨by simpa [setL] using h.l3, by simpa [setL] using h.l4, by simp [setL]; omega, fun x hx => ?_, fun x hx => ?_, ?_, h.c0, h.c8⟩
    · simp [setL] at hx
      exact (h.e1 x hx).mono (by omega)
    · simp [setL] at hx
      rcases hx with hx | rfl
      · exact (h.e2 x hx).mono (by omega)
      · exact ⟨m, z, by omega, rfl, hz, e⟩
    · have := h.no (x := 100 + (m : Int)) (.inr (by omega)) 2 (by omega) (by omega)
      simp [setL, List.nodup_append]
      exact ⟨h.nd, fun a ha e => this (e ▸ ha)⟩

theorem Inv.mono {zs : List Int} {m m' : Nat} {L : Int → List Int} {c : Int} (h : Inv zs m L c) (hm : m ≤ m') : Inv zs m' L c :=
  ⟨h.l3, h.l4, Nat.le_trans h.len hm, fun x hx => (h.e1 x hx).mono hm, fun x hx => (h.e2 x hx).mono hm, h.nd, h.c0, h.c8⟩

theorem qcount_range {k c : Int} (h0 : 0 ≤ c) (h8 : c ≤ 8) : 0 ≤ qcount k c ∧ qcount k c ≤ 8 := by
  unfold qcount
  split <;> (try split) <;> omega

theorem Inv.next {zs : List Int} {m : Nat} {L : Int → List Int} {c k x : Int} {r : List Int} (h : Inv zs m L c) (hk : qturn L c = k) (k1 : 1 ≤ k) (hx : L k = x :: r) : Inv zs m (setL L k r) (qcount k c) := by
  have h1 := h.len
  have hr := qcount_range (k := k) h.c0 h.c8
  have k4 := (qturn_range L c).2
  have : k = 1 ∨ k = 2 ∨ k = 3 ∨ k = 4 := by omega
  rcases this with rfl | rfl | rfl | rfl
  · rw [hx] at h1; simp at h1
    refine ⟨by simpa [setL] using h.l3, by simpa [setL] using h.l4, by simp [setL]; omega, fun y hy => ?_, fun y hy => ?_, by simpa [setL] using h.nd, hr.1, hr.2⟩
    · simp [setL] at hy; exact h.e1 y (by rw [hx]; simp [hy])
    · simp [setL] at hy; exact h.e2 y hy
  · rw [hx] at h1; simp at h1
    have hnd := h.nd
    rw [hx] at hnd
    refine ⟨by simpa [setL] using h.l3, by simpa [setL] using h.l4, by simp [setL]; omega, fun y hy => ?_, fun y hy => ?_, by simpa [setL] using (List.nodup_cons.1 hnd).2, hr.1, hr.2⟩
    · simp [setL] at hy; exact h.e1 y hy
    · simp [setL] at hy; exact h.e2 y (by rw [hx]; simp [hy])
  · rw [h.l3] at hx; cases hx
  · rw [h.l4] at hx; cases hx

theorem next_inv {B : Nat} {w0 w : World} {p bm : Nat} {vs : Int → Value} {c : Int} {L : Int → List Int} {zs : List Int} {m : Nat} (hq : QIn B w0 w p bm vs c L) (hi : Inv zs m L c) :
    Calls Try.prog 10 #[.pointer (some ⟨p, 0, none⟩)] w fun e w' => ∃ x y, e = .returned (.tuple #[.int .i64 x, .int .i64 y]) ∧ ∃ vs c L, QIn B w0 w' p bm vs c L ∧ Inv zs m L c := by
  by_cases h0 : qturn L c = 0
  · refine (Next_none _ _ _ _ _ _ hq.q h0).mono ?_
    rintro e w1 ⟨rfl, hp⟩
    obtain ⟨vs', hq'⟩ := hq.step hp
    exact ⟨_, _, rfl, _, _, _, hq', hi⟩
  · have h1 := qturn_range L c
    obtain ⟨x, r, hx⟩ := turn_head (k := qturn L c) rfl (by omega)
    refine (Next_some _ _ _ _ _ _ hq.q _ rfl (by omega) x r hx hi.c0 hi.c8).mono ?_
    rintro e w1 ⟨rfl, hp⟩
    obtain ⟨vs', hq'⟩ := hq.step hp
    exact ⟨_, _, rfl, _, _, _, hq', hi.next rfl (by omega) hx⟩

structure Inv3 (zs : List Int) (L : Int → List Int) (c : Int) : Prop where
  l4 : L 4 = []
  len : (L 1).length + (L 2).length ≤ 22
  e1 : ∀ x ∈ L 1, x = 1 ∨ Ev zs 20 x 0
  e2 : ∀ x ∈ L 2, x = 2 ∨ Ev zs 20 x 1
  nd : (L 2).Nodup
  ne : L 2 ≠ []
  c0 : 0 ≤ c
  c8 : c ≤ 8

theorem Inv.start {zs : List Int} {L : Int → List Int} {c : Int} (h : Inv zs 20 L c) : Inv3 zs (setL (setL L 1 (L 1 ++ [1])) 2 (setL L 1 (L 1 ++ [1]) 2 ++ [2])) c ∧ setL (setL L 1 (L 1 ++ [1])) 2 (setL L 1 (L 1 ++ [1]) 2 ++ [2]) 3 = [] ∧
    setL (setL L 1 (L 1 ++ [1])) 2 (setL L 1 (L 1 ++ [1]) 2 ++ [2]) 1 ≠ [] := by
  have h1 := h.len
  have h2 := h.no (x := 2) (.inl (by omega)) 2 (by omega) (by omega)
  refine ⟨⟨by simpa [setL] using h.l4, by simp [setL]; omega, fun x hx => ?_, fun x hx => ?_, ?_, by simp [setL], h.c0, h.c8⟩, by simpa [setL] using h.l3, by simp [setL]⟩
  · simp [setL] at hx
    rcases hx with hx | rfl
    · exact .inr (h.e1 x hx)
    · exact .inl rfl
  · simp [setL] at hx
    rcases hx with hx | rfl
    · exact .inr (h.e2 x hx)
    · exact .inl rfl
  · simp [setL, List.nodup_append]
    exact ⟨h.nd, fun a ha e => h2 (e ▸ ha)⟩

/-- One of Normal is told, and added again. -/
theorem Inv3.normal {zs : List Int} {L : Int → List Int} {c x : Int} {r : List Int} (h : Inv3 zs L c) (h3 : L 3 = []) (hx : L 2 = x :: r) :
    (∀ j, 1 ≤ j → j ≤ 4 → x ∉ setL L 2 r j) ∧ sumL (setL L 2 r) 4 < 64 ∧ Inv3 zs (setL (setL L 2 r) 2 (setL L 2 r 2 ++ [x])) (qcount 2 c) ∧ setL (setL L 2 r) 2 (setL L 2 r 2 ++ [x]) 3 = [] ∧ setL (setL L 2 r) 2 (setL L 2 r 2 ++ [x]) 1 = L 1 := by
  have h1 := h.len
  have hr := qcount_range (k := 2) h.c0 h.c8
  have hnd := h.nd
  rw [hx] at hnd h1
  simp only [List.length_cons] at h1
  obtain ⟨n1, n2⟩ := List.nodup_cons.1 hnd
  have h4 := h.l4
  have hx1 : x ∉ L 1 := fun hm => by
    rcases h.e1 x hm with e | ⟨i, z, h1, h2, h3, h4⟩ <;> rcases h.e2 x (by rw [hx]; simp) with e' | ⟨i', z', h1', h2', h3', h4'⟩
    · omega
    · omega
    · omega
    · obtain rfl : i = i' := by omega
      rw [h3] at h3'
      cases h3'
      omega
  refine ⟨fun j j1 j4 => ?_, by simp [setL, sumL, h3, h4]; omega, ⟨by simpa [setL] using h4, by simp [setL]; omega, fun y hy => ?_, fun y hy => ?_, ?_, by simp [setL], hr.1, hr.2⟩, by simpa [setL] using h3, by simp [setL]⟩
  · have : j = 1 ∨ j = 2 ∨ j = 3 ∨ j = 4 := by omega
    rcases this with rfl | rfl | rfl | rfl
    · simpa [setL] using hx1
    · simpa [setL] using n1
    · simp [setL, h3]
    · simp [setL, h4]
  · simp [setL] at hy; exact h.e1 y hy
  · simp [setL] at hy
    rcases hy with hy | rfl
    · exact h.e2 y (by rw [hx]; simp [hy])
    · exact h.e2 y (by rw [hx]; simp)
  · simp [setL, List.nodup_append]
    exact ⟨n2, fun a ha e => n1 (e ▸ ha)⟩

theorem Inv3.low {zs : List Int} {L : Int → List Int} {c x : Int} {r : List Int} (h : Inv3 zs L c) (hx : L 1 = x :: r) : Inv3 zs (setL L 1 r) (qcount 1 c) := by
  have h1 := h.len
  rw [hx] at h1
  simp only [List.length_cons] at h1
  exact ⟨by simpa [setL] using h.l4, by simp [setL]; omega, fun y hy => h.e1 y (by rw [hx]; simp [setL] at hy; simp [hy]), fun y hy => h.e2 y (by simpa [setL] using hy), by simpa [setL] using h.nd, by simpa [setL] using h.ne, by simp [qcount], by simp [qcount]⟩

theorem Inv3.high {zs : List Int} {L : Int → List Int} {c : Int} (h : Inv3 zs L c) (r : List Int) : Inv3 zs (setL L 3 r) c :=
  ⟨by simpa [setL] using h.l4, by simpa [setL] using h.len, fun y hy => h.e1 y (by simpa [setL] using hy), fun y hy => h.e2 y (by simpa [setL] using hy), by simpa [setL] using h.nd, by simpa [setL] using h.ne, h.c0, h.c8⟩

theorem Inv3.no3 {zs : List Int} {L : Int → List Int} {c : Int} (h : Inv3 zs L c) (h3 : L 3 = []) : (∀ j, 1 ≤ j → j ≤ 4 → (3 : Int) ∉ L j) ∧ sumL L 4 < 64 := by
  have h1 := h.len
  refine ⟨fun j j1 j4 hj => ?_, by simp [sumL, h3, h.l4]; omega⟩
  have : j = 1 ∨ j = 2 ∨ j = 3 ∨ j = 4 := by omega
  rcases this with rfl | rfl | rfl | rfl
  · rcases h.e1 3 hj with e | ⟨i, z, h1, h2, _⟩ <;> omega
  · rcases h.e2 3 hj with e | ⟨i, z, h1, h2, _⟩ <;> omega
  · rw [h3] at hj; cases hj
  · rw [h.l4] at hj; cases hj

set_option maxHeartbeats 1600000 in
theorem starves_walk (ao : Option Addr) (n cap : Nat) (zs : List Int) (high : Bool) (w : World) (r0 : Rd w 1 (.slice ao n cap) n (zs.map (Value.int .u8))) (hz : ∀ z ∈ zs, 0 ≤ z ∧ z < 256) :
    Calls Try.prog 3 #[.slice ao n cap, .bool high] w fun e w' => e = .returned (.bool true) ∧ Below w.heap.size w w' := by
  obtain ⟨B, hB⟩ : ∃ B, w.heap.size = B := ⟨_, rfl⟩
  obtain ⟨_, _, hv0, hc0, hm0⟩ := r0.shape
  simp at hv0
  obtain ⟨rfl, rfl⟩ := hv0
  unfold maxLen at hm0
  have HL := Lib.hid (show zs.length = n by have := r0.len; simpa using this)
  have HZ := Lib.hid hz
  clear hz
  go_enter Try.func3, Try.ntmps3
  go_wp2_with fail
  refine (New_any _).mono ?_
  rintro e w1 ⟨rfl, hq, hb⟩
  have h1 := QIn.new hq hb
  rw [hB] at h1 ⊢
  have hsz : w.heap.size ≤ B := by omega
  have HB := Lib.hid hB
  clear hq hb hB
  go_upto_block 0 with fail
  go_cut [] (fun wx => ∃ vs c L, QIn B w wx (B + 1) B vs c L ∧ Inv zs 20 L c)
  case first =>
    go_wp2_with fail
    go_loopw [6] (fun s6 wr => ∃ k : Nat, k ≤ n ∧ k ≤ 20 ∧ s6 = .int .i64 k ∧ ∃ vs c L, QIn B w wr (B + 1) B vs c L ∧ Inv zs k L c) (fun s6 _ => 20 - (intOf s6).toNat)
    case atStart => exact ⟨0, by omega, by omega, rfl, _, _, _, h1, by refine ⟨rfl, rfl, by simp, by simp, by simp, by simp, by omega, by omega⟩⟩
    case round =>
      clear h1
      obtain ⟨k, hkn, hk20, rfl, vs, c, L, hq, hi⟩ := hrel
      by_cases hlt : k < n
      · by_cases h20 : k < 20
        · obtain ⟨g, off, cap', hv, _, _, hcell⟩ := (r0.below hsz hq.below).at (by omega)
          simp at hv
          obtain ⟨rfl, rfl⟩ := hv
          obtain ⟨z, hz⟩ : ∃ z, zs[k]? = some z := ⟨zs[k]'(by have := HL.out; omega), List.getElem?_eq_getElem _⟩
          have hck := hcell k (by omega)
          rw [show (zs.map (Value.int .u8))[k]? = some (.int .u8 z) by simp [hz]] at hck
          clear hcell
          obtain ⟨hz1, hz2⟩ := HZ.out z (List.mem_of_getElem? hz)
          have HX := Lib.hid hz
          have HI := Lib.hid hi
          have hs := hi.sum
          have hno := hi.no (x := 100 + (k : Int)) (.inr (by omega))
          clear hz hi
          go_wp2_with fail
          refine (Add_ok _ _ _ _ _ _ _ _ hq.q (by omega) (by omega) (by omega) (by omega) (by omega) hno).mono ?_
          rintro e w2 ⟨rfl, hp⟩
          obtain ⟨vs2, hq2⟩ := hq.step hp
          clear hp hq hno
          go_wp2_with fail
          go_roundw
          case rel => exact ⟨k + 1, by omega, by omega, by go_num, _, _, _, hq2, HI.out.add HX.out⟩
          case measure => simp [intOf]; omega
        · have HI := Lib.hid hi
          clear hi
          go_wp2_with fail
          go_meet
          case rel => exact ⟨_, _, _, hq, HI.out.mono hk20⟩
      · have HI := Lib.hid hi
        clear hi
        go_wp2_with fail
        go_meet
        case rel => exact ⟨_, _, _, hq, HI.out.mono hk20⟩
  case rest =>
    clear h1
    obtain ⟨vs, c, L, hq, hi⟩ := hcut
    have HI := Lib.hid hi
    clear hi
    go_upto_block 2 with fail
    go_cut [] (fun wx => ∃ vs c L, QIn B w wx (B + 1) B vs c L ∧ Inv zs 20 L c)
    case first =>
      go_wp2_with fail
      go_loopw [7] (fun s7 wr => ∃ k : Nat, k ≤ n ∧ k ≤ 20 ∧ s7 = .int .i64 k ∧ ∃ vs c L, QIn B w wr (B + 1) B vs c L ∧ Inv zs 20 L c) (fun s7 _ => 20 - (intOf s7).toNat)
      case atStart => exact ⟨0, by omega, by omega, rfl, _, _, _, hq, HI.out⟩
      case round =>
        clear hq HI
        obtain ⟨k, hkn, hk20, rfl, vs, c, L, hq, hi⟩ := hrel
        have HI := Lib.hid hi
        clear hi
        by_cases hlt : k < n
        · by_cases h20 : k < 20
          · obtain ⟨g, off, cap', hv, _, _, hcell⟩ := (r0.below hsz hq.below).at (by omega)
            simp at hv
            obtain ⟨rfl, rfl⟩ := hv
            obtain ⟨z, hz⟩ : ∃ z, zs[k]? = some z := ⟨zs[k]'(by have := HL.out; omega), List.getElem?_eq_getElem _⟩
            have hck := hcell k (by omega)
            rw [show (zs.map (Value.int .u8))[k]? = some (.int .u8 z) by simp [hz]] at hck
            clear hcell
            obtain ⟨hz1, hz2⟩ := HZ.out z (List.mem_of_getElem? hz)
            clear hz
            by_cases hzk : (k : Int) < z
            · go_wp2_with fail
              refine (next_inv hq HI.out).mono ?_
              rintro e w2 ⟨x, y, rfl, vs2, c2, L2, hq2, hi2⟩
              have HI2 := Lib.hid hi2
              clear hq HI hi2
              go_wp2_with fail
              go_roundw
              case rel => exact ⟨k + 1, by omega, by omega, by go_num, _, _, _, hq2, HI2.out⟩
              case measure => simp [intOf]; omega
            · go_wp2_with fail
              go_meet
              case rel => exact ⟨_, _, _, hq, HI.out⟩
          · go_wp2_with fail
            go_meet
            case rel => exact ⟨_, _, _, hq, HI.out⟩
        · go_wp2_with fail
          go_meet
          case rel => exact ⟨_, _, _, hq, HI.out⟩
    case rest =>
      clear hq HI
      obtain ⟨vs, c, L, hq, hi⟩ := hcut
      have hs := hi.sum
      have hno := hi.no (x := 1) (.inl (by omega))
      have HI := Lib.hid hi
      clear hi
      go_wp2_with fail
      refine (Add_ok _ _ _ _ _ _ _ _ hq.q (by omega) (by omega) (by omega) (by omega) (by omega) hno).mono ?_
      rintro e w2 ⟨rfl, hp⟩
      obtain ⟨vs2, hq2⟩ := hq.step hp
      clear hp hq hno
      have hno2 : ∀ j, 1 ≤ j → j ≤ 4 → (2 : Int) ∉ setL L 1 (L 1 ++ [1]) j := fun j j1 j4 => by
        have := HI.out.no (x := 2) (.inl (by omega)) j j1 j4
        unfold setL
        split
        · rename_i e; subst e; simp [this]
        · exact this
      have hs2 : sumL (setL L 1 (L 1 ++ [1])) 4 < 64 := by
        have h1 := HI.out.len
        simp [sumL, setL, HI.out.l3, HI.out.l4]
        omega
      go_wp2_with fail
      refine (Add_ok _ _ _ _ _ _ _ _ hq2.q hs2 (by omega) (by omega) (by omega) (by omega) hno2).mono ?_
      rintro e w3 ⟨rfl, hp⟩
      obtain ⟨vs3, hq3⟩ := hq2.step hp
      obtain ⟨hi3, hl3, hl1⟩ := HI.out.start
      clear hp hq2 hno2 hs2 hs HI
      generalize setL (setL L 1 (L 1 ++ [1])) 2 (setL L 1 (L 1 ++ [1]) 2 ++ [2]) = L3 at hq3 hi3 hl3 hl1
      have HI := Lib.hid hi3
      have HL1 := Lib.hid hl1
      have HL3 := Lib.hid hl3
      clear hi3 hl1 hl3
      cases high with
      | true =>
        obtain ⟨hno, hs⟩ := HI.out.no3 HL3.out
        go_wp2_with fail
        refine (Add_ok _ _ _ _ _ _ _ _ hq3.q hs (by omega) (by omega) (by omega) (by omega) hno).mono ?_
        rintro e w4 ⟨rfl, hp⟩
        obtain ⟨vs4, hq4⟩ := hq3.step hp
        have HI4 := Lib.hid (HI.out.high (L3 3 ++ [3]))
        have H33 := Lib.hid (show setL L3 3 (L3 3 ++ [3]) 3 = [3] by simp [setL, HL3.out])
        clear hp hq3 hno hs
        generalize setL L3 3 (L3 3 ++ [3]) = L4 at hq4 HI4 H33
        go_wp2_with fail
        go_loopw [8, 9] (fun s8 s9 wr => ∃ j : Nat, j ≤ 9 ∧ s9 = .int .i64 j ∧ s8 = .bool false ∧ ∃ vs c L, QIn B w wr (B + 1) B vs c L ∧ Inv3 zs L c ∧ L 3 = [3]) (fun _ s9 _ => 9 - (intOf s9).toNat)
        case atStart => exact ⟨0, by omega, rfl, rfl, _, _, _, hq4, HI4.out, H33.out⟩
        case round =>
          clear hq4 HI4 H33 HI HL1 HL3
          obtain ⟨j, hj, rfl, rfl, vs, c, L, hq, hi, h3⟩ := hrel
          by_cases hj9 : j < 9
          · have HT := Lib.hid (show qturn L c = 3 by simp [qturn, hi.l4, h3])
            have HI := Lib.hid hi
            have H3 := Lib.hid h3
            clear hi h3
            go_wp2_with fail
            refine (Next_some _ _ _ _ _ _ hq.q 3 HT.out (by omega) 3 [] H3.out HI.out.c0 HI.out.c8).mono ?_
            rintro e w5 ⟨rfl, hp⟩
            rw [show qcount 3 c = c by simp [qcount]] at hp
            obtain ⟨vs5, hq5⟩ := hq.step hp
            have HI5 := Lib.hid (HI.out.high [])
            obtain ⟨hno, hs⟩ := HI5.out.no3 (by simp [setL])
            clear hp hq
            go_wp2_with fail
            refine (Add_ok _ _ _ _ _ _ _ _ hq5.q hs (by omega) (by omega) (by omega) (by omega) hno).mono ?_
            rintro e w6 ⟨rfl, hp⟩
            obtain ⟨vs6, hq6⟩ := hq5.step hp
            have HI6 := Lib.hid (HI5.out.high (setL L 3 [] 3 ++ [3]))
            clear hp hq5 hno hs
            go_wp2_with fail
            go_roundw
            case rel => exact ⟨j + 1, by omega, by go_num, rfl, _, _, _, hq6, HI6.out, by simp [setL]⟩
            case measure => simp [intOf]; omega
          · go_wp2_with fail
            refine (known_any _).mono ?_
            rintro e w5 ⟨rfl, hb⟩
            go_wp2_with fail
            go_ret
            exact ⟨rfl, by rw [HB.out]; exact hq.below.trans (hb.mono hq.size)⟩
      | false =>
        go_wp2_with fail
        go_loopw [8, 9] (fun s8 s9 wr => ∃ (j : Nat) (met : Bool), j ≤ 9 ∧ s9 = .int .i64 j ∧ s8 = .bool met ∧ ∃ vs c L, QIn B w wr (B + 1) B vs c L ∧ Inv3 zs L c ∧ L 3 = [] ∧ (met = false → L 1 ≠ [] ∧ (j : Int) ≤ c)) (fun _ s9 _ => 9 - (intOf s9).toNat)
        case atStart => exact ⟨0, false, by omega, rfl, rfl, _, _, _, hq3, HI.out, HL3.out, fun _ => ⟨HL1.out, HI.out.c0⟩⟩
        case round =>
          clear hq3 HI HL1 HL3
          obtain ⟨j, met, hj, rfl, rfl, vs, c, L, hq, hi, h3, hmet⟩ := hrel
          by_cases hj9 : j < 9
          · by_cases h1 : L 1 = [] ∨ c < 8
            · have HT := Lib.hid (show qturn L c = 2 by simp [qturn, hi.l4, h3, hi.ne, h1])
              obtain ⟨x, r, hx⟩ := turn_head HT.out (by omega)
              obtain ⟨hno, hs, hi5, h35, h15⟩ := hi.normal h3 hx
              have hxe := hi.e2 x (by rw [hx]; simp)
              have HI := Lib.hid hi
              have HX := Lib.hid hx
              have HM := Lib.hid hmet
              have H1 := Lib.hid h1
              clear hi h3 hx hmet h1
              go_wp2_with fail
              refine (Next_some _ _ _ _ _ _ hq.q 2 HT.out (by omega) x r HX.out HI.out.c0 HI.out.c8).mono ?_
              rintro e w5 ⟨rfl, hp⟩
              obtain ⟨vs5, hq5⟩ := hq.step hp
              have HI5 := Lib.hid hi5
              have H35 := Lib.hid h35
              have HM5 := Lib.hid (show met = false → setL (setL L 2 r) 2 (setL L 2 r 2 ++ [x]) 1 ≠ [] ∧ ((j + 1 : Nat) : Int) ≤ qcount 2 c from fun hm => by
                obtain ⟨m1, m2⟩ := HM.out hm
                rw [h15]
                refine ⟨m1, ?_⟩
                have := H1.out.resolve_left m1
                simp [qcount]
                omega)
              clear hp hq hi5 h35 h15
              rcases hxe with rfl | ⟨i, z, hi20, rfl, hz, hz0⟩
              · go_wp2_with fail
                refine (Add_ok _ _ _ _ _ _ _ _ hq5.q hs (by omega) (by omega) (by omega) (by omega) hno).mono ?_
                rintro e w6 ⟨rfl, hp⟩
                obtain ⟨vs6, hq6⟩ := hq5.step hp
                clear hp hq5 hno hs
                go_wp2_with fail
                go_roundw
                case rel => exact ⟨j + 1, met, by omega, by go_num, rfl, _, _, _, hq6, HI5.out, H35.out, HM5.out⟩
                case measure => simp [intOf]; omega
              · skip
                obtain ⟨g, off, cap', hv, _, _, hcell⟩ := (r0.below hsz hq5.below).at (by have := HL.out; have := (List.getElem?_eq_some_iff.1 hz).1; omega)
                simp at hv
                obtain ⟨rfl, rfl⟩ := hv
                have hin : i < n := by have := HL.out; have := (List.getElem?_eq_some_iff.1 hz).1; omega
                have hck := hcell i (by omega)
                rw [show (zs.map (Value.int .u8))[i]? = some (.int .u8 z) by simp [hz]] at hck
                clear hcell
                obtain ⟨hz1, hz2⟩ := HZ.out z (List.mem_of_getElem? hz)
                clear hz
                go_wp2_with fail
                refine (Add_ok _ _ _ _ _ _ _ _ hq5.q hs (by omega) (by omega) (by omega) (by omega) hno).mono ?_
                rintro e w6 ⟨rfl, hp⟩
                obtain ⟨vs6, hq6⟩ := hq5.step hp
                clear hp hq5 hno hs
                go_wp2_with fail
                go_roundw
                case rel => exact ⟨j + 1, met, by omega, by go_num, rfl, _, _, _, hq6, HI5.out, H35.out, HM5.out⟩
                case measure => simp [intOf]; omega
            · obtain ⟨h1a, h1b⟩ : L 1 ≠ [] ∧ 8 ≤ c := by
                constructor
                · exact fun e => h1 (.inl e)
                · have := fun e => h1 (.inr e); omega
              have HT := Lib.hid (show qturn L c = 1 by unfold qturn; rw [if_neg (by simp [hi.l4]), if_neg (by simp [h3]), if_neg (by intro e; exact h1 e.2), if_pos h1a])
              obtain ⟨x, r, hx⟩ := turn_head HT.out (by omega)
              have hi5 := hi.low hx
              have hxe := hi.e1 x (by rw [hx]; simp)
              have HI := Lib.hid hi
              have HX := Lib.hid hx
              have H35 := Lib.hid (show setL L 1 r 3 = [] by simpa [setL] using h3)
              have HI5 := Lib.hid hi5
              clear hi h3 hx hmet h1 h1a hi5
              go_wp2_with fail
              refine (Next_some _ _ _ _ _ _ hq.q 1 HT.out (by omega) x r HX.out HI.out.c0 HI.out.c8).mono ?_
              rintro e w5 ⟨rfl, hp⟩
              obtain ⟨vs5, hq5⟩ := hq.step hp
              clear hp hq
              rcases hxe with rfl | ⟨i, z, hi20, rfl, hz, hz0⟩
              · go_wp2_with fail
                go_roundw
                case rel => exact ⟨j + 1, true, by omega, by go_num, rfl, _, _, _, hq5, HI5.out, H35.out, fun e => by cases e⟩
                case measure => simp [intOf]; omega
              · skip
                obtain ⟨g, off, cap', hv, _, _, hcell⟩ := (r0.below hsz hq5.below).at (by have := HL.out; have := (List.getElem?_eq_some_iff.1 hz).1; omega)
                simp at hv
                obtain ⟨rfl, rfl⟩ := hv
                have hin : i < n := by have := HL.out; have := (List.getElem?_eq_some_iff.1 hz).1; omega
                have hck := hcell i (by omega)
                rw [show (zs.map (Value.int .u8))[i]? = some (.int .u8 z) by simp [hz]] at hck
                clear hcell
                obtain ⟨hz1, hz2⟩ := HZ.out z (List.mem_of_getElem? hz)
                clear hz
                go_wp2_with fail
                go_roundw
                case rel => exact ⟨j + 1, true, by omega, by go_num, rfl, _, _, _, hq5, HI5.out, H35.out, fun e => by cases e⟩
                case measure => simp [intOf]; omega
          · obtain rfl : met = true := by
              cases met
              · have := hmet rfl; have := hi.c8; omega
              · rfl
            clear hi h3 hmet
            go_wp2_with fail
            refine (known_any _).mono ?_
            rintro e w5 ⟨rfl, hb⟩
            go_wp2_with fail
            go_ret
            exact ⟨rfl, by rw [HB.out]; exact hq.below.trans (hb.mono hq.size)⟩
end Go.Proofs.Ytjdinopiipmojaa
