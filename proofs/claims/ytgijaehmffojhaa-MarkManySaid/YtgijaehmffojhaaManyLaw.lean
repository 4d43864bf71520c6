/- MarkMany: of more than 64 marks the first ones are gone. -/
import Derived.Test.YtgijaehmffojhaaSays
import Derived.Deep.DeepCutAuto
namespace Go.Proofs.Ytgijaehmffojhaa
open Go.RowKit

/-- The two, alike, as MarkMany has them. -/
def Alike (B : Nat) (w0 w : World) (q : Nat) (n : Nat) : Prop :=
  ∃ mv X lv rv R, Pair B w0 w B q mv X lv rv R ∧ Rel X R ∧ R.ms.length ≤ 64 ∧ R.L.length = n ∧ R.room = 4 ∧ R.came = n ∧ R.ex = 0

set_option maxHeartbeats 3200000 in
set_option maxRecDepth 100000 in
theorem many_walk (n ref use : Int) (w : World) :
    Calls Try.prog 4 #[.int .i64 n, .int .i64 ref, .int .i64 use] w fun e w' => e = .returned (.bool true) ∧ Below w.heap.size w w' := by
  obtain ⟨B, hB⟩ : ∃ B, w.heap.size = B := ⟨_, rfl⟩
  go_enter Try.func4, Try.ntmps4
  go_wp2_with fail
  refine (Count_any n 200 _ (by omega)).mono ?_
  rintro e w1 ⟨rfl, rfl⟩
  have hn0 := Int.emod_nonneg n (show (200 : Int) ≠ 0 by omega)
  have hn1 := Int.emod_lt_of_pos n (show (0 : Int) < 200 by omega)
  obtain ⟨N, hN⟩ : ∃ N : Nat, n % 200 = N := ⟨(n % 200).toNat, by omega⟩
  rw [hN] at hn0 hn1 ⊢
  have HNN := Lib.hid hN
  clear hN
  go_wp2_with fail
  refine (New_ok 4 _ (by omega) (by omega)).mono ?_
  rintro e w2 ⟨rfl, hq, hb⟩
  have hM := MbIn.new hq hb
  rw [hB] at hM ⊢
  have hsz : w1.heap.size ≤ B := by omega
  have HB := Lib.hid hB
  clear hq hb hB
  go_wp2_with fail
  refine (Put_room B _ _ 5 _ hM.m (by simp [Bx.made]) (by simp [Bx.made])).mono ?_
  rintro e w3 ⟨rfl, N1, hp⟩
  obtain ⟨m3, hM3⟩ := hM.step hp
  clear hp hM
  obtain ⟨q, hq⟩ : ∃ q, w3.heap.size = q := ⟨_, rfl⟩
  obtain ⟨w4, hw4⟩ : ∃ w4, w3.alloc (.cells #[.int .i64 4, .slice none 0 0, .int .i64 0, .int .i64 0, .int .i64 0, .bool false, .slice none 0 0, .int .i64 0] 42) = w4 := ⟨_, rfl⟩
  have hP : Pair B w1 w4 B q m3 ((Bx.made 4).put N1 5) (.slice none 0 0) (.slice none 0 0) (Rx.made 4) := by
    have hf : Fr (fun _ => False) w3 w4 := by subst hw4; exact (Fr.refl _ _).alloc _
    have hr : w4.heap[q]? = some (.cells #[.int .i64 4, .slice none 0 0, .int .i64 0, .int .i64 0, .int .i64 0, .bool false, .slice none 0 0, .int .i64 0] 42 (0, 0)) := by
      subst hw4 hq; exact heap_alloc_new w3 _
    have hlt := hM3.m.lt
    have hs3 := hM3.size
    refine ⟨hM3.keep hf (fun _ _ h => h) (fun _ h => h.elim), ⟨hr, Sl.nil _ _ _, Sl.nil _ _ _⟩, fun k hk => ?_, fun k hk hk' => ?_⟩
    · rcases hk with h | h | h
      · omega
      · simp [Value.ownBlock] at h
      · simp [Value.ownBlock] at h
    · have := hlt k hk
      rcases hk' with h | h | h
      · omega
      · simp [Value.ownBlock] at h
      · simp [Value.ownBlock] at h
  have hRel : Rel ((Bx.made 4).put N1 5) ((Rx.made 4).put 5) := (Rel.made 4).put N1 5
  go_wp2_with fail
  clear hw4 hM3 hq
  refine (RPut_room q _ _ (Rx.made 4) 5 _ hP.r (by simp [Rx.made]) (by simp [Rx.made]) (by simp [Rx.made]) (by simp [Rx.made])).mono ?_
  rintro e w5 ⟨rfl, hp⟩
  obtain ⟨lv5, rv5, hP5, _⟩ := hP.stepR hp
  have hA : Alike B w1 w5 q 1 := ⟨_, _, _, _, _, hP5, hRel, by simp [Rx.made, Rx.put], by simp [Rx.made, Rx.put], rfl, by simp [Rx.made, Rx.put], rfl⟩
  clear hp hP hP5 hRel
  go_wp2_with fail
  refine (Count_any _ 1000 _ (by omega)).mono ?_
  rintro e w6 ⟨rfl, rfl⟩
  have hf0 := Int.emod_nonneg (ref.tmod 1000) (show (1000 : Int) ≠ 0 by omega)
  have hf1 := Int.emod_lt_of_pos (ref.tmod 1000) (show (0 : Int) < 1000 by omega)
  obtain ⟨fs, hfs⟩ : ∃ fs : Int, ref.tmod 1000 % 1000 = fs := ⟨_, rfl⟩
  rw [hfs] at hf0 hf1 ⊢
  clear hfs
  obtain ⟨F, hF⟩ : ∃ F, 1 + fs = F := ⟨_, rfl⟩
  have hF0 : 1 ≤ F := by omega
  have hF1 : F ≤ 1000 := by omega
  go_upto_block 0 with fail
  clear hF
  go_cut [] (fun wx => Alike B w1 wx q 1)
  case first =>
    go_wp2_with fail
    go_loopg [10] N (fun g s10 wr => ∃ k : Nat, k + g = N ∧ s10 = .int .i64 k ∧ Alike B w1 wr q 1)
    case atStart => exact ⟨0, by omega, rfl, hA⟩
    case round =>
      clear hA
      obtain ⟨k, hk, rfl, hA⟩ := hrel
      cases gk with
      | zero =>
        obtain rfl : k = N := by omega
        go_wp2_with fail
        go_meet
        case rel => exact hA
      | succ g =>
        obtain ⟨mv, X, lv, rv, R, hP, hRel, hm, hL, hroom, hcame, hex⟩ := hA
        have hml := hRel.mlen
        have hrm := mark_rel hRel (F + k)
        have hkp := mark_keeps R (F + k)
        have HR := Lib.hid hrm
        have HK := Lib.hid hkp
        clear hrm hkp
        go_wp2_with fail
        refine (mark_b B mv X (F + k) _ hP.b.m (by omega)).mono ?_
        rintro e w7 ⟨rfl, hp⟩
        obtain ⟨mv7, hP7, _⟩ := hP.stepB hp
        clear hp hP
        rw [HR.out.1]
        go_wp2_with fail
        refine (mark_r q lv rv R (F + k) _ hP7.r (by omega)).mono ?_
        rintro e w8 ⟨rfl, hp⟩
        obtain ⟨lv8, rv8, hP8, _⟩ := hP7.stepR hp
        clear hp hP7
        go_wp2_with fail
        go_roundg g
        case measure => omega
        case rel =>
          obtain ⟨k1, k2, k3, k4, k5⟩ := HK.out
          exact ⟨k + 1, by omega, by go_num, _, _, _, _, _, hP8, HR.out.2, k5 hm, by rw [k1]; exact hL, by rw [k2]; exact hroom, by rw [k3]; exact hcame, by rw [k4]; exact hex⟩
  case rest =>
    clear hA
    obtain ⟨mv, X, lv, rv, R, hP, hRel, hm, hL, hroom, hcame, hex⟩ := hcut
    have hXL := hRel.len
    have hXr := hRel.room
    have hXm := hRel.mlen
    go_wp2_with fail
    refine (Count_any use 210 _ (by omega)).mono ?_
    rintro e w7 ⟨rfl, rfl⟩
    have hu0 := Int.emod_nonneg use (show (210 : Int) ≠ 0 by omega)
    have hu1 := Int.emod_lt_of_pos use (show (0 : Int) < 210 by omega)
    obtain ⟨u, hu⟩ : ∃ u : Int, use % 210 = u := ⟨_, rfl⟩
    rw [hu] at hu0 hu1 ⊢
    clear hu
    obtain ⟨K, hK⟩ : ∃ K, F + u = K := ⟨_, rfl⟩
    go_wp2_with fail
    refine (Put_room B mv X 6 _ hP.b.m (by omega) (by omega)).mono ?_
    rintro e w8 ⟨rfl, N2, hp⟩
    obtain ⟨mv8, hP8, _⟩ := hP.stepB hp
    clear hp hP
    go_wp2_with fail
    refine (RPut_room q lv rv R 6 _ hP8.r (by omega) (by omega) (by omega) (by omega)).mono ?_
    rintro e w9 ⟨rfl, hp⟩
    obtain ⟨lv9, rv9, hP9, _⟩ := hP8.stepR hp
    clear hp hP8
    have hRel9 := hRel.put N2 6
    have hr9 : (R.put 6).ms.length ≤ 64 ∧ (R.put 6).ex = 0 ∧ (R.put 6).L.length = 2 := ⟨hm, hex, by show (R.L ++ [_]).length = 2; simp; omega⟩
    clear hRel hm hL hroom hcame hex hXL hXr hXm
    generalize X.put N2 6 = X9 at hP9 hRel9
    generalize R.put 6 = R9 at hP9 hRel9 hr9
    obtain ⟨hm9, he9, hl9⟩ := hr9
    have hXm := hRel9.mlen
    have hu := use_rel hRel9 K
    have hkp := use_keeps R9 K
    have HU := Lib.hid hu
    have HK := Lib.hid hkp
    clear hu hkp
    go_wp2_with fail
    refine (use_b B mv8 X9 K _ hP9.b.m (by omega)).mono ?_
    rintro e w10 ⟨rfl, hp⟩
    obtain ⟨mv10, hP10, _⟩ := hP9.stepB hp
    clear hp hP9
    rw [HU.out.1]
    go_wp2_with fail
    refine (use_r q lv9 rv9 R9 K _ hP10.r (by omega)).mono ?_
    rintro e w11 ⟨rfl, hp⟩
    obtain ⟨lv11, rv11, hP11, _⟩ := hP10.stepR hp
    clear hp hP10
    have hRel11 := HU.out.2
    have hr11 : (R9.useSays K).2.ex = 0 ∧ (R9.useSays K).2.L.length = 2 := ⟨by rw [HK.out.2.2.2.1]; exact he9, by rw [HK.out.1]; exact hl9⟩
    generalize (R9.useSays K).1 = ub
    generalize (X9.useSays K).2 = X11 at hP11 hRel11
    generalize (R9.useSays K).2 = R11 at hP11 hRel11 hr11
    obtain ⟨he11, hl11⟩ := hr11
    have hXe := hRel11.ex
    have hnr := next_rel hRel11
    have HNR := Lib.hid hnr
    clear hnr
    clear HU HK hRel9 hXm
    go_wp2_with fail
    refine (next_b B mv10 X11 _ hP11.b.m (by omega) (by omega)).mono ?_
    rintro e w12 ⟨rfl, hp⟩
    obtain ⟨mv12, hP12, _⟩ := hP11.stepB hp
    clear hp hP11
    rw [HNR.out.1, HNR.out.2.1]
    go_wp2_with fail
    refine (next_r q lv11 rv11 R11 _ hP12.r (by omega) (by omega) (by omega)).mono ?_
    rintro e w13 ⟨rfl, hp⟩
    obtain ⟨lv13, rv13, hP13, _⟩ := hP12.stepR hp
    clear hp hP12
    generalize R11.nextSays.1 = nx
    generalize R11.nextSays.2.1 = nb
    go_wp2_with fail
    refine (awake_any _).mono ?_
    rintro e w14 ⟨rfl, hb14⟩
    go_wp2_with fail
    go_ret
    exact ⟨rfl, by rw [HB.out]; exact hP13.b.below.trans (hb14.mono hP13.b.size)⟩
end Go.Proofs.Ytgijaehmffojhaa
