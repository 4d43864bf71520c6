/- Several texts in one: Pks, Saq, Sal, Lls, Kal, Pka, Upk, Rup, Lent, Plaw, Tabs3. -/
import Derived.Test.YtkhjdcnlpablkaaDoorAw
import Derived.Test.YtkhjdcnlpablkaaDoorPa
import Derived.Test.YtkhjdcnlpablkaaDoorLong
import Derived.Test.YtkhjdcnlpablkaaDoorSam2
import Derived.Test.YtkhjdcnlpablkaaDoorStk
import Derived.Test.YtkhjdcnlpablkaaDoorTabs
import Derived.Test.YtkhjdcnlpablkaaDoorTabs2
/-! Plain: terms put behind one another, each with its length ahead; taken apart again. -/
namespace Go.Proofs.YtkhjdcnlpablkaaDoor

noncomputable def pk1 (t : List Ce) : List UInt8 := be4 ((encV t).length : Int) ++ encV t
noncomputable def pkB (ls : List (List Ce)) : List UInt8 := ls.flatMap pk1
/-- The first fault and the place of its term. -/
def pkR : Nat → List (List Ce) → Nat × Nat
  | _, [] => (0, 0)
  | k, t :: r => if (rightT t).1 = 0 then pkR (k + 1) r else ((rightT t).1, k)
theorem pkB_snoc (l : List (List Ce)) (t : List Ce) : pkB (l ++ [t]) = pkB l ++ pk1 t := by unfold pkB; simp
theorem pk1_len (t : List Ce) : (pk1 t).length = 4 + (encV t).length := by unfold pk1; rw [List.length_append, be4_len]
theorem pkR_ok : ∀ (k : Nat) (ls : List (List Ce)), (pkR k ls).1 = 0 → ∀ t ∈ ls, rightT t = (0, 0)
  | _, [], _, t, ht => by cases ht
  | k, x :: r, h, t, ht => by
    unfold pkR at h
    by_cases hx : (rightT x).1 = 0
    · rw [if_pos hx] at h
      rcases List.mem_cons.1 ht with rfl | ht
      · exact right_zero hx
      · exact pkR_ok (k + 1) r h t ht
    · rw [if_neg hx] at h
      exact absurd h hx
/-- What is given back: the bytes, the fault, its place. -/
noncomputable def pkX (ls : List (List Ce)) : List UInt8 := if (pkR 0 ls).1 = 0 then pkB ls else []

/-- Taken apart. -/
def unpR (bs : List UInt8) : Nat → Nat → List (List Ce) → List (List Ce) × Nat × Nat
  | 0, _, acc => (acc, 0, 0)
  | f + 1, p, acc =>
    if bs.length ≤ p then (acc, 0, 0)
    else if bs.length - p < 4 then ([], 62, p)
    else if bs.length - p - 4 < beN ((bs.drop p).take 4) then ([], 62, p)
    else match decD ((bs.drop (p + 4)).take (beN ((bs.drop p).take 4))) with
      | .bad e _ => ([], e, p)
      | .ok t => unpR bs f (p + 4 + beN ((bs.drop p).take 4)) (acc ++ [t])
def unp (bs : List UInt8) : List (List Ce) × Nat × Nat := if 1048576 < bs.length then ([], 4, 0) else unpR bs (bs.length + 1) 0 []

theorem unpR_pk : ∀ (r : List (List Ce)) (pre : List UInt8) (f : Nat) (acc : List (List Ce)), (∀ t ∈ r, rightT t = (0, 0) ∧ ∀ c ∈ t, c.i64) → r.length < f →
    unpR (pre ++ pkB r) f pre.length acc = (acc ++ r, 0, 0)
  | [], pre, f + 1, acc, _, _ => by
    unfold unpR
    rw [if_pos (by simp [pkB])]
    simp
  | t :: r, pre, f + 1, acc, h, hf => by
    obtain ⟨h1, h2⟩ := h t (by simp)
    obtain ⟨hd, hl⟩ := enc_dec h1 h2
    have hb : pkB (t :: r) = be4 ((encV t).length : Int) ++ (encV t ++ pkB r) := by unfold pkB pk1; simp
    have hlen : (pre ++ pkB (t :: r)).length = pre.length + (4 + ((encV t).length + (pkB r).length)) := by rw [List.length_append, hb, List.length_append, be4_len, List.length_append]
    have hdr : (pre ++ pkB (t :: r)).drop pre.length = be4 ((encV t).length : Int) ++ (encV t ++ pkB r) := by rw [List.drop_left' rfl, hb]
    have hn : beN (((pre ++ pkB (t :: r)).drop pre.length).take 4) = (encV t).length := by
      rw [hdr, List.take_left' (be4_len _)]
      have := beN_be4 (n := ((encV t).length : Int)) (by omega) (by omega)
      omega
    have hd4 : ((pre ++ pkB (t :: r)).drop (pre.length + 4)).take (encV t).length = encV t := by
      rw [← List.drop_drop, hdr, List.drop_left' (be4_len _), List.take_left' rfl]
    unfold unpR
    rw [if_neg (by omega), if_neg (by omega), hn, if_neg (by omega), hd4, hd]
    simp only
    have := unpR_pk r (pre ++ pk1 t) f (acc ++ [t]) (fun x hx => h x (by simp [hx])) (by simp at hf; omega)
    rw [List.length_append, pk1_len, ← Nat.add_assoc] at this
    rw [show pre ++ pkB (t :: r) = (pre ++ pk1 t) ++ pkB r by unfold pkB; simp, this]
    simp
  | _, _, 0, _, _, h => by omega
theorem pkB_count : ∀ ls : List (List Ce), ls.length ≤ (pkB ls).length
  | [] => by simp
  | t :: r => by
    have h1 := pkB_count r
    have h2 := pk1_len t
    have : pkB (t :: r) = pk1 t ++ pkB r := by unfold pkB; simp
    rw [this, List.length_append, List.length_cons]
    omega
theorem unp_pk {ls : List (List Ce)} (h : (pkR 0 ls).1 = 0) (hk : ∀ t ∈ ls, OkCes t) (hl : (pkB ls).length ≤ 1048576) : unp (pkB ls) = (ls, 0, 0) := by
  unfold unp
  rw [if_neg (by omega)]
  have := unpR_pk ls [] ((pkB ls).length + 1) [] (fun t ht => ⟨pkR_ok 0 ls h t ht, (hk t ht).num⟩) (by have := pkB_count ls; omega)
  simpa using this
end Go.Proofs.YtkhjdcnlpablkaaDoor

/-! Same, Kept of what is alike: they only draw. Lists of terms. SameAll. -/
namespace Go.Proofs.YtkhjdcnlpablkaaDoor
open Go.RowKit
open Go.Lib (byteCells)

set_option maxHeartbeats 3200000 in
set_option maxRecDepth 100000 in
theorem same_q (l : List Ce) (u v : Value) (w : World) (hu : Rd w 3 u l.length (cvs l)) (hv : Rd w 3 v l.length (cvs l)) :
    Calls Tryd.prog 12 #[u, v] w fun e w' => e = .returned (.bool true) ∧ ∃ n, w' = w.drewN n := by
  obtain ⟨ao1, cap1, rfl, hc1, hm1⟩ := hu.shape
  obtain ⟨ao2, cap2, rfl, hc2, hm2⟩ := hv.shape
  have HU := Lib.hid hu
  have HV := Lib.hid hv
  unfold maxLen at hm1 hm2
  clear hu hv
  have q1 : (((l.length : Nat) : Int) != ((l.length : Nat) : Int)) = false := by simp
  go_enter Tryd.func12, Tryd.ntmps12
  go_wp2_with fail
  clear q1
  go_loopw [5] (fun s5 wr => ∃ k : Nat, k ≤ l.length ∧ s5 = .int .i64 k ∧ ∃ n, wr = w.drewN n) (fun s5 _ => l.length - (intOf s5).toNat)
  case atStart => exact ⟨0, by omega, rfl, 0, rfl⟩
  case round =>
    obtain ⟨k, hk, rfl, n0, rfl⟩ := hrel
    by_cases hlt : k < l.length
    · obtain ⟨c, hc⟩ : ∃ c, l[k]? = some c := ⟨l[k], List.getElem?_eq_getElem _⟩
      have hr1 := HU.out
      have hr2 := HV.out
      obtain ⟨g1, o1, c1', hv1, hp1, hp2, hp3⟩ := hr1.at (by omega)
      obtain ⟨g2, o2, c2', hv2, hp4, hp5, hp6⟩ := hr2.at (by omega)
      clear hp1 hp2 hp3 hp4 hp5 hp6
      simp at hv1 hv2
      obtain ⟨rfl, rfl⟩ := hv1
      obtain ⟨rfl, rfl⟩ := hv2
      obtain ⟨a0, a1, a2⟩ := rd_cell hr1 rfl hc
      obtain ⟨b0, b1, b2⟩ := rd_cell hr2 rfl hc
      have HC := Lib.hid hc
      have hkz : (k : Int) < (l.length : Int) := by omega
      clear hc hr1 hr2
      obtain ⟨ck, cn, cs⟩ := c
      simp only at a0 a1 a2 b0 b1 b2
      go_wp2_with fail
      go_quiet (fail)
      go_wp2_with fail
      go_roundw
      case rel => exact ⟨k + 1, by omega, by go_num, _, rfl⟩
      case measure => simp [intOf]; omega
    · obtain rfl : k = l.length := by omega
      go_wp2_with fail
      go_ret
      exact ⟨rfl, _, rfl⟩

set_option maxHeartbeats 1600000 in
set_option maxRecDepth 100000 in
theorem rkept_q (B : Nat) (t : List Ce) (v u : Value) (w : World) (hr : Rd w 3 u t.length (cvs t)) (hl : LentC B w v t) (hle : t.length * 32 ≤ 140737488355328) :
    Calls Tryd.prog 23 #[v, u] w fun e w' => e = .returned (.bool true) ∧ ∃ n, w' = w.drewN n := by
  have HS := Lib.hid (same_q t v u w hl.rd hr)
  obtain ⟨ao, capu, rfl, _, _⟩ := hr.shape
  have HL := Lib.hid hl
  obtain ⟨g, off, cap, rfl, h2, h3, h4, h5⟩ := hl
  have hm3 := h3
  unfold maxLen at hm3
  have hl2 : t.length ≤ 4398046511104 := by omega
  have H5 := Lib.hid h5
  clear hr h5
  go_enter Tryd.func23, Tryd.ntmps23
  go_wp2_with fail
  refine (HS.out).mono ?_
  rintro e w1 ⟨rfl, n1, rfl⟩
  have h6 : Sl (w.drewN n1) 60 3 (.slice (some ⟨g, off, none⟩) (t.length + 1) cap) (t.length + 1) (cvs (t ++ [markC])) := H5.out.drewN _
  have c2 := h6.cell (t.length * 3 + 2) (by omega)
  rw [cvs_at (t := t ++ [markC]) (k := t.length) (c := markC) (by simp) 2 (by omega)] at c2
  have c3 : (w.drewN n1).cell? ⟨g, off + t.length * 3 + 2, none⟩ = some (.string markS) := by rw [Nat.add_assoc]; exact c2
  unfold markS at c3
  clear h6 c2 HS HL H5
  go_wp2_with fail
  go_ret
  exact ⟨rfl, _, rfl⟩

/-! ### Lists of terms -/
/-- v reads as a list of terms, each of which is as El says. -/
def LL (El : World → Value → List Ce → Prop) (w : World) (v : Value) (ls : List (List Ce)) : Prop :=
  ∃ vs, Rd w 1 v ls.length vs ∧ ∀ (i : Nat) t, ls[i]? = some t → ∃ u, vs[i]? = some u ∧ El w u t
def ElRs (w : World) (u : Value) (t : List Ce) : Prop := Rd w 3 u t.length (cvs t)
def RLs (w : World) (v : Value) (ls : List (List Ce)) : Prop := LL ElRs w v ls
theorem RLs.below {w w' : World} {v : Value} {ls : List (List Ce)} (h : RLs w v ls) {B : Nat} (hB : w.heap.size ≤ B) (hb : Below B w w') : RLs w' v ls := by
  obtain ⟨vs, h1, h2⟩ := h
  exact ⟨vs, h1.below hB hb, fun i t ht => by
    obtain ⟨u, hu, he⟩ := h2 i t ht
    exact ⟨u, hu, Rd.below he hB hb⟩⟩
theorem RLs.shape {w : World} {v : Value} {ls : List (List Ce)} (h : RLs w v ls) : ∃ ao cap, v = .slice ao ls.length cap ∧ ls.length ≤ cap ∧ cap ≤ maxLen := by
  obtain ⟨vs, h1, _⟩ := h
  exact h1.shape
theorem RLs.at {w : World} {v : Value} {ls : List (List Ce)} (h : RLs w v ls) {k : Nat} {t : List Ce} (hk : ls[k]? = some t) :
    ∃ g off cap u, v = .slice (some ⟨g, off, none⟩) ls.length cap ∧ w.cell? ⟨g, off + k, none⟩ = some u ∧ Rd w 3 u t.length (cvs t) := by
  obtain ⟨vs, h1, h2⟩ := h
  have hlt : k < ls.length := (List.getElem?_eq_some_iff.1 hk).1
  obtain ⟨g, off, cap, hv, hp1, hp2, hp3⟩ := h1.at (by omega)
  obtain ⟨u, hu, he⟩ := h2 k t hk
  exact ⟨g, off, cap, u, hv, by have := hp3 k (by omega); rw [this, hu], he⟩
end Go.Proofs.YtkhjdcnlpablkaaDoor

/-! SameAll: two lists of the same terms. -/
namespace Go.Proofs.YtkhjdcnlpablkaaDoor
open Go.RowKit
open Go.Lib (byteCells)

theorem bel_draw (w : World) (n : Nat) : Below w.heap.size w (w.drewN n) := bel_drewN (Below.refl _ _) n
theorem same_qq {t : List Ce} {u v : Value} {w : World} (hu : Rd w 3 u t.length (cvs t)) (hv : Rd w 3 v t.length (cvs t)) (n : Nat) :
    Calls Tryd.prog 12 #[u, v] (w.drewN n) fun e w' => e = .returned (.bool true) ∧ ∃ m, w' = w.drewN m :=
  Calls.quiet_of (same_q t u v (w.drewN n) (hu.below (Nat.le_refl _) (bel_draw w n)) (hv.below (Nat.le_refl _) (bel_draw w n)))

set_option maxHeartbeats 3200000 in
set_option maxRecDepth 100000 in
theorem sameAll_any (ls : List (List Ce)) (u v : Value) (w : World) (hu : RLs w u ls) (hv : RLs w v ls) :
    Calls Tryd.prog 29 #[u, v] w fun e w' => e = .returned (.bool true) ∧ Below w.heap.size w w' := by
  obtain ⟨ao1, cap1, rfl, hc1, hm1⟩ := hu.shape
  obtain ⟨ao2, cap2, rfl, hc2, hm2⟩ := hv.shape
  have HU := Lib.hid hu
  have HV := Lib.hid hv
  unfold maxLen at hm1 hm2
  clear hu hv
  have q1 : (((ls.length : Nat) : Int) != ((ls.length : Nat) : Int)) = false := by simp
  go_enter Tryd.func29, Tryd.ntmps29
  go_wp2_with fail
  clear q1
  go_loopw [5] (fun s5 wr => ∃ k : Nat, k ≤ ls.length ∧ s5 = .int .i64 k ∧ Below w.heap.size w wr) (fun s5 _ => ls.length - (intOf s5).toNat)
  case atStart => exact ⟨0, by omega, rfl, Below.refl _ _⟩
  case round =>
    obtain ⟨k, hk, rfl, hbe⟩ := hrel
    have HBE := Lib.hid hbe
    by_cases hlt : k < ls.length
    · obtain ⟨t, ht⟩ : ∃ t, ls[k]? = some t := ⟨ls[k], List.getElem?_eq_getElem _⟩
      obtain ⟨g1, o1, c1, u1, hv1, a1, hr1⟩ := (HU.out.below (Nat.le_refl _) hbe).at ht
      obtain ⟨g2, o2, c2, u2, hv2, a2, hr2⟩ := (HV.out.below (Nat.le_refl _) hbe).at ht
      simp at hv1 hv2
      obtain ⟨rfl, rfl⟩ := hv1
      obtain ⟨rfl, rfl⟩ := hv2
      have HQ := Lib.hid (same_qq hr1 hr2)
      have hkz : (k : Int) < (ls.length : Int) := by omega
      clear ht hr1 hr2 hbe
      go_wp2_with fail
      go_quiet ((go_at_call 12; exact HQ.out _))
      go_wp2_with fail
      go_roundw
      case rel => exact ⟨k + 1, by omega, by go_num, bel_drewN HBE.out _⟩
      case measure => simp [intOf]; omega
    · obtain rfl : k = ls.length := by omega
      go_wp2_with fail
      go_ret
      exact ⟨rfl, HBE.out⟩
end Go.Proofs.YtkhjdcnlpablkaaDoor

/-! New slices of terms: append. Lents. -/
namespace Go.Proofs.YtkhjdcnlpablkaaDoor
open Go.RowKit
open Go.Lib (byteCells)

def Els (El : World → Value → List Ce → Prop) (w : World) (vs : List Value) (ls : List (List Ce)) : Prop := ∀ (i : Nat) t, ls[i]? = some t → ∃ u, vs[i]? = some u ∧ El w u t
/-- What is said of an element: its block is one of cells. -/
structure ElOk (El : World → Value → List Ce → Prop) : Prop where
  bel : ∀ {w w' : World} {u : Value} {t : List Ce}, El w u t → Below w.heap.size w w' → El w' u t
  fr : ∀ {w w' : World} {u v : Value} {t : List Ce} {n : Nat} {vs : List Value}, El w u t → Sl w 24 1 v n vs → Fr (fun k => v.ownBlock = some k) w w' → El w' u t
theorem fr60 {w w' : World} {u v : Value} {n m : Nat} {vs xs : List Value} (h : Sl w 60 3 u m xs) (hs : Sl w 24 1 v n vs) (hf : Fr (fun k => v.ownBlock = some k) w w') : Sl w' 60 3 u m xs := by
  refine hf.sl h fun k hk hv => ?_
  obtain ⟨ao, cap, rfl, _, _, _, h3⟩ := hs
  rcases h3 with ⟨rfl, _⟩ | ⟨g, off, cur, rfl, hg, _⟩
  · simp [Value.ownBlock] at hv
  · simp [Value.ownBlock] at hv
    exact h.ne hg (by decide) k hk hv.symm
def El1 (w : World) (u : Value) (t : List Ce) : Prop := Sl w 60 3 u t.length (cvs t)
def El2 (w : World) (u : Value) (t : List Ce) : Prop := LentC 0 w u t
theorem elOk1 : ElOk El1 := ⟨fun h hb => Sl.keep h fun k hk => hb.block k (Sl.lt h k hk), fun h hs hf => fr60 h hs hf⟩
theorem elOk2 : ElOk El2 := ⟨fun h hb => LentC.below h hb, fun h hs hf => by
  obtain ⟨g, off, cap, h1, h2, h3, h4, h5⟩ := h
  exact ⟨g, off, cap, h1, h2, h3, h4, fr60 h5 hs hf⟩⟩
theorem LentC.mono {B B' : Nat} {w : World} {v : Value} {t : List Ce} (h : LentC B w v t) (hB : B' ≤ B) : LentC B' w v t := by
  obtain ⟨g, off, cap, h1, h2, h3, h4, h5⟩ := h
  exact ⟨g, off, cap, h1, h2, h3, by omega, h5⟩
theorem Els.bel {El : World → Value → List Ce → Prop} (hE : ElOk El) {w w' : World} {vs : List Value} {ls : List (List Ce)} (h : Els El w vs ls) (hb : Below w.heap.size w w') : Els El w' vs ls := fun i t ht => by
  obtain ⟨u, hu, he⟩ := h i t ht
  exact ⟨u, hu, hE.bel he hb⟩
theorem Els.fr {El : World → Value → List Ce → Prop} (hE : ElOk El) {w w' : World} {v : Value} {n : Nat} {vs vs' : List Value} {ls : List (List Ce)} (h : Els El w vs ls) (hs : Sl w 24 1 v n vs') (hf : Fr (fun k => v.ownBlock = some k) w w') : Els El w' vs ls := fun i t ht => by
  obtain ⟨u, hu, he⟩ := h i t ht
  exact ⟨u, hu, hE.fr he hs hf⟩
theorem Els.left {El : World → Value → List Ce → Prop} {w : World} {vs xs : List Value} {ls : List (List Ce)} (h : Els El w vs ls) : Els El w (vs ++ xs) ls := fun i t ht => by
  obtain ⟨u, hu, he⟩ := h i t ht
  exact ⟨u, by rw [List.getElem?_append_left (List.getElem?_eq_some_iff.1 hu).1]; exact hu, he⟩
theorem Els.snoc {El : World → Value → List Ce → Prop} {w : World} {vs : List Value} {ls : List (List Ce)} (h : Els El w vs ls) (hl : vs.length = ls.length) {u : Value} {t : List Ce} (hu : El w u t) : Els El w (vs ++ [u]) (ls ++ [t]) := fun i t' ht => by
  by_cases hi : i < ls.length
  · rw [List.getElem?_append_left hi] at ht
    exact h.left i t' ht
  · have hi2 : i = ls.length := by
      have := (List.getElem?_eq_some_iff.1 ht).1
      simp at this
      omega
    subst hi2
    simp at ht
    subst ht
    exact ⟨u, by rw [← hl]; simp, hu⟩
/-- A slice of new memory, of terms. -/
def SLs (El : World → Value → List Ce → Prop) (B : Nat) (w : World) (v : Value) (ls : List (List Ce)) : Prop :=
  ∃ vs, Sl w 24 1 v ls.length vs ∧ (∀ k, v.ownBlock = some k → B ≤ k) ∧ Els El w vs ls
theorem SLs.nil (El : World → Value → List Ce → Prop) (B : Nat) (w : World) : SLs El B w (.slice none 0 0) [] := ⟨[], Sl.nil _ _ _, fun k hk => by simp [Value.ownBlock] at hk, fun i t ht => by simp at ht⟩
theorem SLs.bel {El : World → Value → List Ce → Prop} (hE : ElOk El) {B : Nat} {w w' : World} {v : Value} {ls : List (List Ce)} (h : SLs El B w v ls) (hb : Below w.heap.size w w') : SLs El B w' v ls := by
  obtain ⟨vs, h1, h2, h3⟩ := h
  exact ⟨vs, h1.keep fun k hk => hb.block k (h1.lt k hk), h2, h3.bel hE hb⟩
theorem SLs.shape {El : World → Value → List Ce → Prop} {B : Nat} {w : World} {v : Value} {ls : List (List Ce)} (h : SLs El B w v ls) : ∃ ao cap, v = .slice ao ls.length cap ∧ ls.length ≤ cap ∧ cap ≤ maxLen := by
  obtain ⟨vs, h1, _⟩ := h
  exact h1.shape
theorem SLs.rls {B : Nat} {w : World} {v : Value} {ls : List (List Ce)} (h : SLs El1 B w v ls) : RLs w v ls := by
  obtain ⟨vs, h1, _, h2⟩ := h
  exact ⟨vs, h1.rd, fun i t ht => by
    obtain ⟨u, hu, he⟩ := h2 i t ht
    exact ⟨u, hu, Sl.rd he⟩⟩
theorem bel_alloc (w : World) (o : Obj) : Below w.heap.size w (w.alloc o) := (Below.refl _ _).alloc (Nat.le_refl _) o
/-- Behind an append. -/
theorem sls_push {El : World → Value → List Ce → Prop} (hE : ElOk El) {B : Nat} {w wa w2 : World} {v v2 u : Value} {vs : List Value} {ls : List (List Ce)} {t : List Ce} (hs : Sl w 24 1 v ls.length vs) (ho : ∀ k, v.ownBlock = some k → B ≤ k)
    (he : Els El w vs ls) (hu : El w u t) (hb : Below w.heap.size w wa) (h2 : Sl w2 24 1 v2 (ls.length + 1) (vs ++ [u])) (hf : Fr (fun k => v.ownBlock = some k) wa w2) (hv : v2.ownBlock = v.ownBlock ∨ v2.ownBlock = some wa.heap.size) (hB : B ≤ w.heap.size) :
    SLs El B w2 v2 (ls ++ [t]) ∧ Below B w w2 := by
  have hsa : Sl wa 24 1 v ls.length vs := hs.keep fun k hk => hb.block k (hs.lt k hk)
  have hz := hb.size
  refine ⟨⟨_, by rw [List.length_append]; exact h2, fun k hk => ?_, ?_⟩, (hb.mono hB).trans (hf.below (by omega) ho)⟩
  · rcases hv with e | e
    · exact ho k (e ▸ hk)
    · rw [e] at hk
      simp at hk
      omega
  · exact (((he.bel hE hb).fr hE hsa hf)).snoc (by have := hs.len; omega) (hE.fr (hE.bel hu hb) hsa hf)
theorem Sl.new3 (w : World) (e : TypeId) (size : Nat) (cs : List Value) (n : Nat) (hn : cs.length = n * size) (hm : n ≤ maxLen) : Sl (w.alloc (.cells cs.toArray e)) e size (.slice (some ⟨w.heap.size, 0, none⟩) n n) n cs :=
  ⟨_, _, rfl, by omega, Nat.le_refl _, hm, .inr ⟨w.heap.size, 0, _, rfl, heap_alloc_new w _, by rw [List.size_toArray]; omega, by rw [List.drop_zero]; exact List.take_of_length_le (by rw [List.toList_toArray]; omega)⟩⟩
theorem Tryd.info24b : (Tryd.prog.info? 24).map (fun i => (i.zero, i.size, i.bytes)) = some (some (.slice none 0 0), 1, 24) := by kernel_rfl

/-- Terms ls, lent one by one, and the mark's term behind them. -/
def LentL (w : World) (v : Value) (ls : List (List Ce)) : Prop :=
  ∃ g off cap vs um, v = .slice (some ⟨g, off, none⟩) ls.length cap ∧ ls.length + 1 ≤ cap ∧ cap ≤ maxLen ∧ Sl w 24 1 (.slice (some ⟨g, off, none⟩) (ls.length + 1) cap) (ls.length + 1) (vs ++ [um]) ∧ vs.length = ls.length ∧ Els El2 w vs ls ∧ El1 w um [markC]
theorem LentL.bel {w w' : World} {v : Value} {ls : List (List Ce)} (h : LentL w v ls) (hb : Below w.heap.size w w') : LentL w' v ls := by
  obtain ⟨g, off, cap, vs, um, h1, h2, h3, h4, h5, h6, h7⟩ := h
  exact ⟨g, off, cap, vs, um, h1, h2, h3, h4.keep fun k hk => hb.block k (h4.lt k hk), h5, h6.bel elOk2 hb, elOk1.bel h7 hb⟩
theorem LentL.rls {w : World} {v : Value} {ls : List (List Ce)} (h : LentL w v ls) : RLs w v ls := by
  obtain ⟨g, off, cap, vs, um, rfl, h2, h3, h4, h5, h6, h7⟩ := h
  have := h4.take (m := ls.length) (by omega)
  rw [List.take_left' (by omega)] at this
  exact ⟨vs, this.rd, fun i t ht => by
    obtain ⟨u, hu, he⟩ := h6 i t ht
    exact ⟨u, hu, LentC.rd he⟩⟩

set_option maxHeartbeats 3200000 in
set_option maxRecDepth 100000 in
theorem lents_any (ls : List (List Ce)) (v : Value) (w : World) (hr : RLs w v ls) (hn : ls.length ≤ 1048576) (hl : ∀ t ∈ ls, t.length ≤ 1048576) :
    Calls Tryd.prog 24 #[v] w fun e w' => ∃ v', e = .returned v' ∧ LentL w' v' ls ∧ Below w.heap.size w w' := by
  obtain ⟨i0, hinf, hz0, hz1, hz2⟩ := info_parts Tryd.info24b
  obtain ⟨ao, cap, rfl, _, _⟩ := hr.shape
  have HR := Lib.hid hr
  have HLN := Lib.hid hl
  clear hr hl
  go_enter Tryd.func24, Tryd.ntmps24
  go_wp2_with fail
  go_loopg [3, 4] ls.length (fun g s3 s4 wr => ∃ k : Nat, k + g = ls.length ∧ s4 = .int .i64 k ∧ Below w.heap.size w wr ∧ SLs El2 w.heap.size wr s3 (ls.take k))
  case atStart => exact ⟨0, by omega, rfl, Below.refl _ _, SLs.nil _ _ _⟩
  case round =>
    obtain ⟨k, hkg, rfl, hbe, hS⟩ := hrel
    have HBE := Lib.hid hbe
    cases gk with
    | zero =>
      obtain rfl : k = ls.length := by omega
      rw [List.take_of_length_le (Nat.le_refl _)] at hS
      obtain ⟨ao1, cap1, rfl, hc1, hm1⟩ := hS.shape
      obtain ⟨vs, hs, ho, he⟩ := hS
      have HS := Lib.hid hs
      have HO := Lib.hid ho
      have HE := Lib.hid he
      have hz := hbe.size
      clear hs ho he hbe
      go_wp2_with (at_builtin; refine wpList_append_one rfl (.tmp 19) (.tmp 22) 43 rfl 24 i0 (.slice none 0 0) 1 24 Tryd.underlying43 hinf hz0 hz1 hz2 rfl (by decide) _ ls.length vs rfl ((HS.out.alloc _).alloc _) ⟨wr.heap.size + 1, 0, none⟩ 1 [.slice (some ⟨wr.heap.size, 0, none⟩) 1 1] rfl rfl ?cells (fun u hu => by simp at hu; subst hu; rfl) (by unfold maxLen; omega) (by omega) (by omega) ?next2)
      case cells =>
        have := cells_new (wr.alloc (.cells (cvs [markC]).toArray 60)) [.slice (some ⟨wr.heap.size, 0, none⟩) 1 1] 24
        rw [show (wr.alloc (.cells (cvs [markC]).toArray 60)).heap.size = wr.heap.size + 1 by simp] at this
        exact this
      case next2 =>
        intro v2 w2 h2 hf2 hv2
        obtain ⟨g, off, cap2, cur, rfl, hc2, hm2, _⟩ := h2.blk (by omega)
        have hba : Below wr.heap.size wr ((wr.alloc (.cells (cvs [markC]).toArray 60)).alloc (.cells #[.slice (some ⟨wr.heap.size, 0, none⟩) 1 1] 24)) := (bel_alloc _ _).alloc (by simp) _
        have hsa := (HS.out.alloc (.cells (cvs [markC]).toArray 60)).alloc (.cells #[.slice (some ⟨wr.heap.size, 0, none⟩) 1 1] 24)
        have hum : El1 w2 (.slice (some ⟨wr.heap.size, 0, none⟩) 1 1) [markC] := fr60 ((Sl.new3 wr 60 3 (cvs [markC]) 1 rfl (by unfold maxLen; omega)).alloc _) hsa hf2
        have HL : Hid (LentL w2 (.slice (some ⟨g, off, none⟩) ls.length cap2) ls) := Lib.hid ⟨g, off, cap2, vs, _, rfl, hc2, hm2, h2, by have := HS.out.len; omega, (HE.out.bel elOk2 hba).fr elOk2 hsa hf2, hum⟩
        have HB := Lib.hid (HBE.out.trans ((hba.mono hz).trans (hf2.below (Nat.le_trans hz hba.size) HO.out)))
        have hm3 := hm2
        unfold maxLen at hm3
        clear h2 hf2 hv2 hba hsa hum
        go_wp2_with fail
        go_ret
        exact ⟨_, rfl, HL.out, HB.out⟩
    | succ g =>
      obtain ⟨t, ht⟩ : ∃ t, ls[k]? = some t := ⟨ls[k], List.getElem?_eq_getElem _⟩
      have HT := Lib.hid ht
      obtain ⟨g1, o1, c1, u1, hv1, a1, hr1⟩ := (HR.out.below (Nat.le_refl _) hbe).at ht
      simp at hv1
      obtain ⟨rfl, rfl⟩ := hv1
      have htl := HLN.out t (List.mem_of_getElem? ht)
      have HC := Lib.hid (rlent_any t u1 wr hr1 (by omega))
      have HSK := Lib.hid hS
      have hlk : (ls.take k).length = k := by rw [List.length_take]; omega
      obtain ⟨aos, caps, rfl, _, _⟩ := hS.shape
      rw [hlk] at HSK ⊢
      have hkz : (k : Int) < (ls.length : Int) := by omega
      clear hr1 ht hbe hS
      go_wp2_with fail
      refine (HC.out).mono ?_
      rintro e w1 ⟨u, rfl, hu, hb1⟩
      obtain ⟨vs, hs, ho, he⟩ := HSK.out.bel elOk2 hb1
      rw [hlk] at hs
      have HS := Lib.hid hs
      have HO := Lib.hid ho
      have HE := Lib.hid he
      have HU := Lib.hid (LentC.mono hu (Nat.zero_le _))
      have HB1 := Lib.hid (HBE.out.trans (hb1.mono HBE.out.size))
      obtain ⟨aou, capu, rfl, _, _⟩ := hu.rd.shape
      clear hs ho he hb1 hu HC
      go_wp2_with (at_builtin; refine wpList_append_one rfl (.tmp 11) (.tmp 17) 43 rfl 24 i0 (.slice none 0 0) 1 24 Tryd.underlying43 hinf hz0 hz1 hz2 rfl (by decide) _ k vs rfl (HS.out.alloc _) ⟨w1.heap.size, 0, none⟩ 1 [.slice aou t.length capu] rfl rfl (cells_new w1 _ 24) (fun u hu => by simp at hu; subst hu; rfl) (by unfold maxLen; omega) (by omega) (by omega) ?next3)
      case next3 =>
        intro v2 w2 h2 hf2 hv2
        have HP := sls_push elOk2 (B := w.heap.size) (by rw [hlk]; exact HS.out) HO.out HE.out HU.out (bel_alloc _ _) (by rw [hlk]; exact h2) hf2 (by simpa using hv2) HB1.out.size
        rw [show ls.take k ++ [t] = ls.take (k + 1) by rw [List.take_add_one, HT.out]; rfl] at HP
        have HPP := Lib.hid HP
        clear h2 hf2 hv2 HP
        go_wp2_with fail
        go_roundg g
        case measure => omega
        case rel => exact ⟨k + 1, by omega, by go_num, HB1.out.trans HPP.out.2, HPP.out.1⟩
end Go.Proofs.YtkhjdcnlpablkaaDoor

/-! KeptAll: lent terms are kept. -/
namespace Go.Proofs.YtkhjdcnlpablkaaDoor
open Go.RowKit
open Go.Lib (byteCells)

theorem kept_qq {t : List Ce} {u v : Value} {w : World} (hv : El2 w v t) (hu : Rd w 3 u t.length (cvs t)) (hle : t.length * 32 ≤ 140737488355328) (n : Nat) :
    Calls Tryd.prog 23 #[v, u] (w.drewN n) fun e w' => e = .returned (.bool true) ∧ ∃ m, w' = w.drewN m :=
  Calls.quiet_of (rkept_q 0 t v u (w.drewN n) (hu.below (Nat.le_refl _) (bel_draw w n)) (elOk2.bel hv (bel_draw w n)) hle)

set_option maxHeartbeats 3200000 in
set_option maxRecDepth 100000 in
theorem keptAll_any (ls : List (List Ce)) (v u : Value) (w : World) (hr : RLs w u ls) (hv : LentL w v ls) (hn : ls.length ≤ 1048576) (hl : ∀ t ∈ ls, t.length ≤ 1048576) :
    Calls Tryd.prog 27 #[v, u] w fun e w' => e = .returned (.bool true) ∧ Below w.heap.size w w' := by
  obtain ⟨ao, cap, rfl, _, _⟩ := hr.shape
  have HR := Lib.hid hr
  have HV := Lib.hid hv
  have HLN := Lib.hid hl
  obtain ⟨g, off, capv, vs, um, rfl, h2, h3, _, _, _, _⟩ := hv
  have hm3 := h3
  unfold maxLen at hm3
  clear hr hl
  go_enter Tryd.func27, Tryd.ntmps27
  go_wp2_with fail
  go_loopg [5] ls.length (fun gg s5 wr => ∃ k : Nat, k + gg = ls.length ∧ s5 = .int .i64 k ∧ Below w.heap.size w wr)
  case atStart => exact ⟨0, by omega, rfl, Below.refl _ _⟩
  case round =>
    obtain ⟨k, hkg, rfl, hbe⟩ := hrel
    have HBE := Lib.hid hbe
    obtain ⟨g', off', capv', vs', um', hva, h2', h3', h4', h5', h6', h7'⟩ := HV.out.bel hbe
    simp at hva
    obtain ⟨⟨rfl, rfl⟩, rfl⟩ := hva
    cases gk with
    | zero =>
      obtain rfl : k = ls.length := by omega
      have c1 := h4'.cell ls.length (by omega)
      rw [List.getElem?_append_right (by omega), h5', Nat.sub_self] at c1
      simp only [List.getElem?_cons_zero] at c1
      have h7 : Sl wr 60 3 um' 1 (cvs [markC]) := h7'
      obtain ⟨gu, ou, capu, cur, rfl, hcu, _, _⟩ := h7.blk (by omega)
      have c2 := h7.cell 2 (by omega)
      rw [show (cvs [markC])[2]? = some (.string markS) from rfl] at c2
      unfold markS at c2
      clear h4' h5' h6' h7' h7 hbe HV HR
      go_wp2_with fail
      go_ret
      exact ⟨rfl, HBE.out⟩
    | succ gg =>
      obtain ⟨t, ht⟩ : ∃ t, ls[k]? = some t := ⟨ls[k], List.getElem?_eq_getElem _⟩
      obtain ⟨g1, o1, c1, u1, hv1, a1, hr1⟩ := (HR.out.below (Nat.le_refl _) hbe).at ht
      simp at hv1
      obtain ⟨rfl, rfl⟩ := hv1
      obtain ⟨u2, hu2, he2⟩ := h6' k t ht
      have a2 := h4'.cell k (by omega)
      rw [List.getElem?_append_left (by omega), hu2] at a2
      have HQ := Lib.hid (kept_qq he2 hr1 (by have := HLN.out t (List.mem_of_getElem? ht); omega))
      have hkz : (k : Int) < (ls.length : Int) := by omega
      clear ht hr1 hbe h4' h5' h6' h7' hu2 he2
      go_wp2_with fail
      go_quiet ((go_at_call 23; exact HQ.out _))
      go_wp2_with fail
      go_roundg gg
      case measure => omega
      case rel => exact ⟨k + 1, by omega, by go_num, bel_drewN HBE.out _⟩
end Go.Proofs.YtkhjdcnlpablkaaDoor

/-! Packets: terms behind one another. -/
namespace Go.Proofs.YtkhjdcnlpablkaaDoor
open Go.RowKit
open Go.Lib (byteCells)

theorem pkB_take_le (ls : List (List Ce)) (k : Nat) : (pkB (ls.take k)).length ≤ (pkB ls).length := by
  have : pkB ls = pkB (ls.take k) ++ pkB (ls.drop k) := by
    unfold pkB
    rw [← List.flatMap_append, List.take_append_drop]
  rw [this, List.length_append]
  omega
theorem pkR_drop {ls : List (List Ce)} {k : Nat} {t : List Ce} (ht : ls[k]? = some t) : pkR k (ls.drop k) = if (rightT t).1 = 0 then pkR (k + 1) (ls.drop (k + 1)) else ((rightT t).1, k) := by
  obtain ⟨h, rfl⟩ := List.getElem?_eq_some_iff.1 ht
  rw [List.drop_eq_getElem_cons h]
  rfl

set_option maxHeartbeats 3200000 in
set_option maxRecDepth 100000 in
theorem packets_any (ls : List (List Ce)) (v : Value) (hk : ∀ t ∈ ls, OkCes t) (w : World) (hr : RLs w v ls) (hn : (pkB ls).length ≤ 900000000000) (hT : ∀ W, Below w.heap.size w W → Lib.Utf8Tabs 0 1 W) :
    Calls Tryd.prog 25 #[v] w fun e w' => ∃ v', e = .returned (.tuple #[v', .int .i64 (pkR 0 ls).1, .int .i64 (pkR 0 ls).2]) ∧ Bs w.heap.size w' v' (pkX ls) ∧ Below w.heap.size w w' := by
  have HTB := Lib.hid hT
  clear hT
  obtain ⟨ao, cap, rfl, hcap, hmax⟩ := hr.shape
  unfold maxLen at hmax
  have HR := Lib.hid hr
  have HK := Lib.hid hk
  clear hr hk
  go_enter Tryd.func25, Tryd.ntmps25
  go_wp2_with fail
  go_loopg [5, 6, 7, 8, 9, 12] ls.length (fun g s5 _ _ _ _ s12 wr => ∃ k : Nat, k + g = ls.length ∧ s12 = .int .i64 k ∧ Below w.heap.size w wr ∧ Hid (Bs w.heap.size wr s5 (pkB (ls.take k))) ∧ (∃ ao c, s5 = .slice ao (pkB (ls.take k)).length c) ∧ Hid (pkR 0 ls = pkR k (ls.drop k)))
  case atStart => exact ⟨0, by omega, rfl, Below.refl _ _, Lib.hid (Bs.nil _ _), ⟨_, _, rfl⟩, Lib.hid rfl⟩
  case round =>
    obtain ⟨k, hkg, rfl, hbe, HA, ⟨aoa, ca, rfl⟩, HP⟩ := hrel
    have HBE := Lib.hid hbe
    have hle := pkB_take_le ls k
    cases gk with
    | zero =>
      obtain rfl : k = ls.length := by omega
      have HZ : Hid (pkR 0 ls = (0, 0)) := Lib.hid (by rw [HP.out, List.drop_of_length_le (Nat.le_refl _)]; rfl)
      have HX : Hid (pkX ls = pkB (ls.take ls.length)) := Lib.hid (by unfold pkX; rw [if_pos (by rw [HZ.out]), List.take_of_length_le (Nat.le_refl _)])
      clear hbe
      go_wp2_with fail
      go_ret3
      exact ⟨_, by rw [HZ.out]; rfl, by rw [HX.out]; exact HA.out, HBE.out⟩
    | succ g =>
      obtain ⟨t, ht⟩ : ∃ t, ls[k]? = some t := ⟨ls[k], List.getElem?_eq_getElem _⟩
      obtain ⟨g1, o1, c1, u1, hv1, a1, hr1⟩ := (HR.out.below (Nat.le_refl _) hbe).at ht
      simp at hv1
      obtain ⟨rfl, rfl⟩ := hv1
      have hc0 := Encode_any t u1 (HK.out t (List.mem_of_getElem? ht)) wr hr1 (HTB.out wr hbe)
      have HT1 := Lib.hid ht
      have hpd := pkR_drop ht
      rw [← HP.out] at hpd
      have HPD := Lib.hid hpd
      have hel := encV_len t
      obtain ⟨e0, he0⟩ : ∃ e0, (rightT t).1 = e0 := ⟨_, rfl⟩
      obtain ⟨E, hE⟩ : ∃ E, encV t = E := ⟨_, rfl⟩
      rw [he0, hE] at hc0
      rw [hE] at hel
      have HE := Lib.hid hE
      have HE0 := Lib.hid he0
      have HC := Lib.hid hc0
      obtain ⟨ys, hys⟩ : ∃ ys, pkB (ls.take k) = ys := ⟨_, rfl⟩
      rw [hys] at HA hle
      have HYS := Lib.hid hys
      simp only [hys]
      have HLT : Hid (∀ q, Value.ownBlock (.slice aoa ys.length ca) = some q → q < wr.heap.size) := Lib.hid (fun q hq => HA.out.sl.lt q hq)
      have hkz : (k : Int) < (ls.length : Int) := by omega
      clear hr1 ht hbe hpd hc0 he0 hE hys HP
      by_cases h0 : e0 = 0
      · subst h0
        go_wp2_with fail
        refine (HC.out).mono ?_
        rintro e w1 ⟨u, rfl, hu, hb1⟩
        have HU := Lib.hid hu
        have HA1 := Lib.hid (HA.out.below (hb1))
        have HB1 := Lib.hid (HBE.out.trans (hb1.mono HBE.out.size))
        obtain ⟨aou, capu, rfl, _, _⟩ := hu.shape
        have hz1 := HB1.out.size
        clear hb1 hu HC HA
        go_wp2_with fail
        refine (put32_any w.heap.size _ ys (E.length : Int) w1 hz1 HA1.out (by omega)).mono ?_
        rintro e w2 ⟨v2, rfl, hw2⟩
        have HW2 := Lib.hid hw2.bs
        have HB3 := Lib.hid (HB1.out.trans hw2.bel)
        have HU2 : Hid (Sl w2 5 1 (.slice aou E.length capu) E.length (byteCells E)) := Lib.hid (hw2.fr.sl HU.out.sl fun q hq hv => by have h1 := HU.out.own q hq; have h2 := HLT.out q hv; omega)
        have hz2 := HB3.out.size
        clear hw2 HU HA1
        go_wp2_with (at_builtin; refine wpList_bytes_rd (.tmp 29) (.tmp 30) E rfl rfl rfl rfl HW2.out HU2.out.rd hz2 (by simp [be4_len]; omega) ?next)
        case next =>
          intro v3 w3 h3
          have HZZ : Hid (pkB (ls.take (k + 1)) = ys ++ (be4 (E.length : Int) ++ E)) := Lib.hid (by rw [List.take_add_one, HT1.out]; show pkB (ls.take k ++ [t]) = _; rw [pkB_snoc, HYS.out]; unfold pk1; rw [HE.out])
          have HPN : Hid (pkR 0 ls = pkR (k + 1) (ls.drop (k + 1))) := Lib.hid (by rw [HPD.out, HE0.out, if_pos rfl])
          obtain ⟨ao3, c3, hv3, _, _⟩ := h3.bs.shape
          have HV3 := Lib.hid hv3
          have H3 := Lib.hid h3
          clear h3 hv3
          go_wp2_with fail
          go_roundg g
          case measure => omega
          case rel => exact ⟨k + 1, by omega, by go_num, HB3.out.trans H3.out.bel, Lib.hid (by rw [HZZ.out]; simpa only [List.append_assoc] using H3.out.bs), by rw [HZZ.out]; exact ⟨ao3, c3, by simpa only [List.append_assoc] using HV3.out⟩, HPN⟩
      · have q1 : ((e0 : Int) == 0) = false := by simp; omega
        have q2 : ((e0 : Int) != 0) = true := by simp; omega
        have HZ : Hid (pkR 0 ls = (e0, k)) := Lib.hid (by rw [HPD.out, HE0.out, if_neg h0])
        have HX : Hid (pkX ls = []) := Lib.hid (by unfold pkX; rw [if_neg (by rw [HZ.out]; exact h0)])
        go_wp2_with fail
        refine (HC.out).mono ?_
        rintro e w1 ⟨u, rfl, hu, hb1⟩
        have HB1 := Lib.hid (HBE.out.trans (hb1.mono HBE.out.size))
        obtain ⟨aou, capu, rfl, _, _⟩ := hu.shape
        clear hb1 hu HC HA h0
        go_wp2_with fail
        go_ret3
        exact ⟨_, by rw [HZ.out]; rfl, by rw [HX.out]; exact Bs.nil _ _, HB1.out⟩

set_option maxHeartbeats 3200000 in
set_option maxRecDepth 100000 in
theorem rpackets_any (ls : List (List Ce)) (v : Value) (hk : ∀ t ∈ ls, OkCes t) (w : World) (hr : RLs w v ls) (hn : (pkB ls).length ≤ 900000000000) :
    Calls Tryd.prog 26 #[v] w fun e w' => ∃ v', e = .returned (.tuple #[v', .int .i64 (pkR 0 ls).1, .int .i64 (pkR 0 ls).2]) ∧ Bs w.heap.size w' v' (pkX ls) ∧ Below w.heap.size w w' := by
  obtain ⟨ao, cap, rfl, hcap, hmax⟩ := hr.shape
  unfold maxLen at hmax
  have HR := Lib.hid hr
  have HK := Lib.hid hk
  clear hr hk
  go_enter Tryd.func26, Tryd.ntmps26
  go_wp2_with fail
  go_loopg [5, 6, 7, 8, 9, 12] ls.length (fun g s5 _ _ _ _ s12 wr => ∃ k : Nat, k + g = ls.length ∧ s12 = .int .i64 k ∧ Below w.heap.size w wr ∧ Hid (Bs w.heap.size wr s5 (pkB (ls.take k))) ∧ (∃ ao c, s5 = .slice ao (pkB (ls.take k)).length c) ∧ Hid (pkR 0 ls = pkR k (ls.drop k)))
  case atStart => exact ⟨0, by omega, rfl, Below.refl _ _, Lib.hid (Bs.nil _ _), ⟨_, _, rfl⟩, Lib.hid rfl⟩
  case round =>
    obtain ⟨k, hkg, rfl, hbe, HA, ⟨aoa, ca, rfl⟩, HP⟩ := hrel
    have HBE := Lib.hid hbe
    have hle := pkB_take_le ls k
    cases gk with
    | zero =>
      obtain rfl : k = ls.length := by omega
      have HZ : Hid (pkR 0 ls = (0, 0)) := Lib.hid (by rw [HP.out, List.drop_of_length_le (Nat.le_refl _)]; rfl)
      have HX : Hid (pkX ls = pkB (ls.take ls.length)) := Lib.hid (by unfold pkX; rw [if_pos (by rw [HZ.out]), List.take_of_length_le (Nat.le_refl _)])
      clear hbe
      go_wp2_with fail
      go_ret3
      exact ⟨_, by rw [HZ.out]; rfl, by rw [HX.out]; exact HA.out, HBE.out⟩
    | succ g =>
      obtain ⟨t, ht⟩ : ∃ t, ls[k]? = some t := ⟨ls[k], List.getElem?_eq_getElem _⟩
      obtain ⟨g1, o1, c1, u1, hv1, a1, hr1⟩ := (HR.out.below (Nat.le_refl _) hbe).at ht
      simp at hv1
      obtain ⟨rfl, rfl⟩ := hv1
      have hc0 := REncode_any t u1 (HK.out t (List.mem_of_getElem? ht)) wr hr1
      have HT1 := Lib.hid ht
      have hpd := pkR_drop ht
      rw [← HP.out] at hpd
      have HPD := Lib.hid hpd
      have hel := encV_len t
      obtain ⟨e0, he0⟩ : ∃ e0, (rightT t).1 = e0 := ⟨_, rfl⟩
      obtain ⟨E, hE⟩ : ∃ E, encV t = E := ⟨_, rfl⟩
      rw [he0, hE] at hc0
      rw [hE] at hel
      have HE := Lib.hid hE
      have HE0 := Lib.hid he0
      have HC := Lib.hid hc0
      obtain ⟨ys, hys⟩ : ∃ ys, pkB (ls.take k) = ys := ⟨_, rfl⟩
      rw [hys] at HA hle
      have HYS := Lib.hid hys
      simp only [hys]
      have HLT : Hid (∀ q, Value.ownBlock (.slice aoa ys.length ca) = some q → q < wr.heap.size) := Lib.hid (fun q hq => HA.out.sl.lt q hq)
      have hkz : (k : Int) < (ls.length : Int) := by omega
      clear hr1 ht hbe hpd hc0 he0 hE hys HP
      by_cases h0 : e0 = 0
      · subst h0
        go_wp2_with fail
        refine (HC.out).mono ?_
        rintro e w1 ⟨u, rfl, hu, hb1⟩
        have HU := Lib.hid hu
        have HA1 := Lib.hid (HA.out.below (hb1))
        have HB1 := Lib.hid (HBE.out.trans (hb1.mono HBE.out.size))
        obtain ⟨aou, capu, rfl, _, _⟩ := hu.shape
        have hz1 := HB1.out.size
        clear hb1 hu HC HA
        go_wp2_with fail
        refine (four_any (E.length : Int) w1).mono ?_
        rintro e w2 ⟨v2, rfl, h2, hb2⟩
        have HA2 := Lib.hid (HA1.out.below hb2)
        have HB2 := Lib.hid (HB1.out.trans (hb2.mono HB1.out.size))
        have HU2 := Lib.hid (HU.out.below hb2)
        have H2 := Lib.hid h2
        have hz2 := HB2.out.size
        clear h2 hb2 HA1 HU
        go_wp2_with (at_builtin; refine wpList_bytes_rd (.tmp 26) (.tmp 29) (be4 (E.length : Int)) rfl rfl rfl rfl HA2.out H2.out.sl.rd hz2 (by simp [be4_len]; omega) ?next)
        case next =>
          intro v2b w2b hw2
          have HW2 := Lib.hid hw2.bs
          have HB3 := Lib.hid (HB2.out.trans hw2.bel)
          have HU3 : Hid (Sl w2b 5 1 (.slice aou E.length capu) E.length (byteCells E)) := Lib.hid (hw2.fr.sl HU2.out.sl fun q hq hv => by have h1 := HU2.out.own q hq; have h2 := HLT.out q hv; omega)
          have hz3 := HB3.out.size
          clear hw2 HU2 HA2 H2
          go_wp2_with (at_builtin; refine wpList_bytes_rd (.tmp 31) (.tmp 32) E rfl rfl rfl rfl HW2.out HU3.out.rd hz3 (by simp [be4_len]; omega) ?next2)
          case next2 =>
            intro v3 w3 h3
            have HZZ : Hid (pkB (ls.take (k + 1)) = ys ++ (be4 (E.length : Int) ++ E)) := Lib.hid (by rw [List.take_add_one, HT1.out]; show pkB (ls.take k ++ [t]) = _; rw [pkB_snoc, HYS.out]; unfold pk1; rw [HE.out])
            have HPN : Hid (pkR 0 ls = pkR (k + 1) (ls.drop (k + 1))) := Lib.hid (by rw [HPD.out, HE0.out, if_pos rfl])
            obtain ⟨ao3, c3, hv3, _, _⟩ := h3.bs.shape
            have HV3 := Lib.hid hv3
            have H3 := Lib.hid h3
            clear h3 hv3
            go_wp2_with fail
            go_roundg g
            case measure => omega
            case rel => exact ⟨k + 1, by omega, by go_num, HB3.out.trans H3.out.bel, Lib.hid (by rw [HZZ.out]; simpa only [List.append_assoc] using H3.out.bs), by rw [HZZ.out]; exact ⟨ao3, c3, by simpa only [List.append_assoc] using HV3.out⟩, HPN⟩
      · have q1 : ((e0 : Int) == 0) = false := by simp; omega
        have q2 : ((e0 : Int) != 0) = true := by simp; omega
        have HZ : Hid (pkR 0 ls = (e0, k)) := Lib.hid (by rw [HPD.out, HE0.out, if_neg h0])
        have HX : Hid (pkX ls = []) := Lib.hid (by unfold pkX; rw [if_neg (by rw [HZ.out]; exact h0)])
        go_wp2_with fail
        refine (HC.out).mono ?_
        rintro e w1 ⟨u, rfl, hu, hb1⟩
        have HB1 := Lib.hid (HBE.out.trans (hb1.mono HBE.out.size))
        obtain ⟨aou, capu, rfl, _, _⟩ := hu.shape
        clear hb1 hu HC HA h0
        go_wp2_with fail
        go_ret3
        exact ⟨_, by rw [HZ.out]; rfl, by rw [HX.out]; exact Bs.nil _ _, HB1.out⟩
end Go.Proofs.YtkhjdcnlpablkaaDoor

/-! Unpack: terms behind one another, taken apart. -/
namespace Go.Proofs.YtkhjdcnlpablkaaDoor
open Go.RowKit
open Go.Lib (byteCells)

/-- What Unpack answers. -/
def UnP (w : World) (X : List (List Ce) × Nat × Nat) (r : Ending) (w' : World) : Prop :=
  ∃ v, r = .returned (.tuple #[v, .int .i64 X.2.1, .int .i64 X.2.2]) ∧ SLs El1 w.heap.size w' v X.1

theorem unpR_end {bs : List UInt8} {f p : Nat} {acc : List (List Ce)} (h : bs.length ≤ p) : unpR bs f p acc = (acc, 0, 0) := by
  cases f with
  | zero => rfl
  | succ f => unfold unpR; rw [if_pos h]
theorem unpR_short {bs : List UInt8} {f p : Nat} {acc : List (List Ce)} (h : p < bs.length) (h4 : bs.length - p < 4) : unpR bs (f + 1) p acc = ([], 62, p) := by
  unfold unpR; rw [if_neg (by omega), if_pos h4]
theorem unpR_over {bs : List UInt8} {f p : Nat} {acc : List (List Ce)} (h4 : ¬ bs.length - p < 4) (hn : bs.length - p - 4 < beN ((bs.drop p).take 4)) : unpR bs (f + 1) p acc = ([], 62, p) := by
  unfold unpR; rw [if_neg (by omega), if_neg h4, if_pos hn]
theorem unpR_bad {bs : List UInt8} {f p n e q : Nat} {acc : List (List Ce)} (h4 : ¬ bs.length - p < 4) (hb : beN ((bs.drop p).take 4) = n) (hn : ¬ bs.length - p - 4 < n) (hd : decD (rest bs (p + 4) n) = .bad e q) : unpR bs (f + 1) p acc = ([], e, p) := by
  unfold rest at hd
  unfold unpR; rw [if_neg (by omega), if_neg h4, hb, if_neg hn, hd]
theorem unpR_ok {bs : List UInt8} {f p n : Nat} {acc : List (List Ce)} {t : List Ce} (h4 : ¬ bs.length - p < 4) (hb : beN ((bs.drop p).take 4) = n) (hn : ¬ bs.length - p - 4 < n) (hd : decD (rest bs (p + 4) n) = .ok t) : unpR bs (f + 1) p acc = unpR bs f (p + 4 + n) (acc ++ [t]) := by
  unfold rest at hd
  conv => lhs; unfold unpR
  rw [if_neg (by omega), if_neg h4, hb, if_neg hn, hd]

theorem rest_rest {bs : List UInt8} {p d n : Nat} (h : 4 + n ≤ d) : rest (rest bs p d) 4 n = rest bs (p + 4) n := by
  unfold rest
  rw [List.drop_take, List.take_take, List.drop_drop, Nat.min_eq_left (by omega)]

set_option maxHeartbeats 3200000 in
set_option maxRecDepth 100000 in
theorem unpack_any (bs : List UInt8) (v : Value) (w : World) (hr : Rd w 1 v bs.length (byteCells bs)) (hT : ∀ W, Below w.heap.size w W → Lib.Utf8Tabs 0 1 W) :
    Calls Tryd.prog 28 #[v] w fun e w' => UnP w (unp bs) e w' ∧ Below w.heap.size w w' := by
  obtain ⟨i0, hinf, hz0, hz1, hz2⟩ := info_parts Tryd.info24b
  obtain ⟨ao, cap, rfl, hcap, hmax⟩ := hr.shape
  unfold maxLen at hmax
  obtain ⟨X, hX⟩ : ∃ X, unp bs = X := ⟨_, rfl⟩
  rw [hX]
  have HX := Lib.hid hX.symm
  have HR := Lib.hid hr
  have HTB := Lib.hid hT
  clear hX hr hT
  by_cases hbig : 1048576 < bs.length
  · have t1 : decide (1048576 < (bs.length : Int)) = true := by simp; omega
    have t2 : decide (1048576 < bs.length) = true := by simp; omega
    have HF : Hid (X = ([], 4, 0)) := Lib.hid (by rw [HX.out]; unfold unp; rw [if_pos hbig])
    clear hbig
    go_enter Tryd.func28, Tryd.ntmps28
    go_wp2_with fail
    go_ret3
    exact ⟨⟨_, by rw [HF.out]; rfl, by rw [HF.out]; exact SLs.nil _ _ _⟩, Below.refl _ _⟩
  · have t1 : decide (1048576 < (bs.length : Int)) = false := by simp; omega
    have t2 : decide (1048576 < bs.length) = false := by simp; omega
    have hle : bs.length ≤ 1048576 := by omega
    have HF : Hid (X = unpR bs (bs.length + 1) 0 []) := Lib.hid (by rw [HX.out]; unfold unp; rw [if_neg hbig])
    clear hbig
    go_enter Tryd.func28, Tryd.ntmps28
    go_wp2_with fail
    clear t1 t2
    go_loopg [5, 6, 7, 8, 9, 10, 11] bs.length (fun g s5 s6 _ _ _ _ _ wr => ∃ (p : Nat) (acc : List (List Ce)), s6 = .int .i64 p ∧ bs.length - p ≤ g ∧ p ≤ bs.length ∧ acc.length ≤ p ∧ Below w.heap.size w wr ∧ SLs El1 w.heap.size wr s5 acc ∧ Hid (X = unpR bs (g + 1) p acc))
    case atStart => exact ⟨0, [], rfl, by omega, by omega, by simp, Below.refl _ _, SLs.nil _ _ _, HF⟩
    case round =>
      obtain ⟨p, acc, rfl, hpg, hpl, hal, hbe, hS, HU⟩ := hrel
      have HBE := Lib.hid hbe
      have HS := Lib.hid hS
      clear HF
      by_cases hlt : p < bs.length
      · cases gk with
        | zero => omega
        | succ g =>
          obtain ⟨d, hd⟩ : ∃ d, bs.length - p = d := ⟨_, rfl⟩
          obtain ⟨ga, oa, ca, hva, _, _, _⟩ := (HR.out).at (by omega)
          simp at hva
          obtain ⟨rfl, rfl⟩ := hva
          have hcp : ¬ cap = p := by omega
          have hpz : (p : Int) < (bs.length : Int) := by omega
          have p0 : (0 : Int) ≤ (p : Int) := by omega
          have p1 : (p : Int) ≤ (bs.length : Int) := by omega
          have p2 : (bs.length : Int) ≤ (cap : Int) := by omega
          have hrest := rd_part (HR.out.below (Nat.le_refl _) hbe) p d (by omega)
          rw [if_neg hcp] at hrest
          have HREST := Lib.hid hrest
          clear hbe hS hrest
          by_cases h4 : d < 4
          · have q1 : decide ((d : Int) < 4) = true := by simp; omega
            have q2 : decide (d < 4) = true := by simp; omega
            have HXX : Hid (X = ([], 62, p)) := Lib.hid (by rw [HU.out]; exact unpR_short hlt (by omega))
            go_wp2_with fail
            go_ret3
            exact ⟨⟨_, by rw [HXX.out]; rfl, by rw [HXX.out]; exact SLs.nil _ _ _⟩, HBE.out⟩
          · have q1 : decide ((d : Int) < 4) = false := by simp; omega
            have q2 : decide (d < 4) = false := by simp; omega
            have hrl : (rest bs p d).length = d := rest_len (by omega)
            have H41 := Lib.hid (long_any wr.heap.size _ d (rest bs p d) hrl (by omega) (by omega) wr (RdU.of HREST.out (Nat.le_refl _)))
            obtain ⟨n, hn⟩ : ∃ n, beN ((rest bs p d).take 4) = n := ⟨_, rfl⟩
            rw [hn] at H41
            have hbn : beN ((bs.drop p).take 4) = n := by
              rw [← hn]
              unfold rest
              rw [List.take_of_length_le (i := d) (by rw [List.length_drop]; omega)]
            have HBN := Lib.hid hbn
            have hn32 : n < 4294967296 := by
              have := beN_lt ((rest bs p d).take 4)
              rw [List.length_take, hrl, show min 4 d = 4 by omega, hn] at this
              exact this
            obtain ⟨dd, hdd⟩ : ∃ dd, d - 4 = dd := ⟨_, rfl⟩
            have e3 : (d : Int) - 4 = (dd : Int) := by omega
            have e2 : IntKind.i64.wrap ((d : Int) - 4) = (dd : Int) := by rw [IntKind.wrap_i64]; omega
            have HN4 : Hid (¬ bs.length - p < 4 ∧ bs.length - p - 4 = dd) := Lib.hid ⟨by omega, by omega⟩
            clear hn hbn
            by_cases hov : dd < n
            · have q3 : decide ((dd : Int) < (n : Int)) = true := by simp; omega
              have q4 : decide (dd < n) = true := by simp; omega
              have HXX : Hid (X = ([], 62, p)) := Lib.hid (by rw [HU.out]; exact unpR_over HN4.out.1 (by rw [HBN.out, HN4.out.2]; exact hov))
              go_wp2_with fail
              refine (H41.out).mono ?_
              rintro e w1 ⟨rfl, hb1⟩
              have HB1 := Lib.hid (HBE.out.trans (hb1.mono HBE.out.size))
              clear hb1 H41
              go_wp2_with fail
              go_ret3
              exact ⟨⟨_, by rw [HXX.out]; rfl, by rw [HXX.out]; exact SLs.nil _ _ _⟩, HB1.out⟩
            · have q3 : decide ((dd : Int) < (n : Int)) = false := by simp; omega
              have q4 : decide (dd < n) = false := by simp; omega
              have HNO : Hid (¬ bs.length - p - 4 < n) := Lib.hid (by rw [HN4.out.2]; exact hov)
              obtain ⟨m, hm⟩ : ∃ m, 4 + n = m := ⟨_, rfl⟩
              have e5 : (4 : Int) + (n : Int) = (m : Int) := by omega
              have e6 : IntKind.i64.wrap ((4 : Int) + (n : Int)) = (m : Int) := by rw [IntKind.wrap_i64]; omega
              have e7 : IntKind.i64.wrap (m : Int) = (m : Int) := by rw [IntKind.wrap_i64]; omega
              have r1 : (4 : Int) ≤ (m : Int) := by omega
              have r2 : (m : Int) ≤ ((cap - p : Nat) : Int) := by omega
              have hmn : m - 4 = n := by omega
              have hp2 : p + 4 + n ≤ bs.length := by omega
              have HM := Lib.hid (⟨hm, hd, hdd⟩ : 4 + n = m ∧ bs.length - p = d ∧ d - 4 = dd)
              clear hm hov hdd
              go_wp2_with fail
              refine (H41.out).mono ?_
              rintro e w1 ⟨rfl, hb1⟩
              have HB1 := Lib.hid (HBE.out.trans (hb1.mono HBE.out.size))
              have HS1 := Lib.hid (HS.out.bel elOk1 hb1)
              have HRX := Lib.hid (rd_part (HREST.out.below (Nat.le_refl _) hb1) 4 n (by omega))
              rw [rest_rest (show 4 + n ≤ d by omega)] at HRX
              have HDD := Lib.hid (fun v (hv : Rd w1 1 v (rest bs (p + 4) n).length (byteCells (rest bs (p + 4) n))) => Decode_any (rest bs (p + 4) n) v w1 hv (fun W hW => HTB.out W (HB1.out.trans (hW.mono HB1.out.size))))
              rw [rest_len hp2] at HDD
              obtain ⟨D, hD⟩ : ∃ D, decD (rest bs (p + 4) n) = D := ⟨_, rfl⟩
              rw [hD] at HDD
              have HDX := Lib.hid hD
              have e8 : (4 : Int) + (n : Int) = (m : Int) := e5
              have e9 : (p : Int) + (m : Int) = ((p + 4 + n : Nat) : Int) := by have := HM.out.1; omega
              have e10 : IntKind.i64.wrap ((p : Int) + (m : Int)) = ((p + 4 + n : Nat) : Int) := by rw [IntKind.wrap_i64]; omega
              clear hb1 H41 hD HREST
              go_wp2_with fail
              all_goals
                have hrx := HRX.out
                first
                  | rw [if_neg h] at hrx
                  | (rw [if_pos h] at hrx; rw [h] at hrx)
                refine (HDD.out _ hrx).mono ?_
                rintro e w2 ⟨hd2, hb2⟩
                have HB2 := Lib.hid (HB1.out.trans (hb2.mono HB1.out.size))
                have HS2 := Lib.hid (HS1.out.bel elOk1 hb2)
                clear hrx hb2 HDD HRX
                cases D with
                | bad e q =>
                  have hnz := nz_dec _ _ _ HDX.out
                  obtain rfl := hd2
                  have q5 : ((e : Int) == 0) = false := by simp; omega
                  have q6 : ((e : Int) != 0) = true := by simp; omega
                  have HXX : Hid (X = ([], e, p)) := Lib.hid (by rw [HU.out]; exact unpR_bad HN4.out.1 HBN.out HNO.out HDX.out)
                  clear hnz
                  go_wp2_with fail
                  go_ret3
                  exact ⟨⟨_, by rw [HXX.out]; rfl, by rw [HXX.out]; exact SLs.nil _ _ _⟩, HB2.out⟩
                | ok t =>
                  obtain ⟨vt, rfl, hst, _⟩ := hd2
                  have HST := Lib.hid hst
                  have HXX : Hid (X = unpR bs (g + 1) (p + 4 + n) (acc ++ [t])) := Lib.hid (by rw [HU.out]; exact unpR_ok HN4.out.1 HBN.out HNO.out HDX.out)
                  obtain ⟨aot, capt, rfl, _, _⟩ := hst.shape
                  obtain ⟨vs, hs, ho, he⟩ := HS2.out
                  have HSS := Lib.hid hs
                  have HO := Lib.hid ho
                  have HE := Lib.hid he
                  clear hst hs ho he HS HS1 HS2
                  go_wp2_with (at_builtin; refine wpList_append_one rfl (.tmp 47) (.tmp 49) 43 rfl 24 i0 (.slice none 0 0) 1 24 Tryd.underlying43 hinf hz0 hz1 hz2 rfl (by decide) _ acc.length vs rfl (HSS.out.alloc _) ⟨w2.heap.size, 0, none⟩ 1 [.slice aot t.length capt] rfl rfl (cells_new w2 _ 24) (fun u hu => by simp at hu; subst hu; rfl) (by unfold maxLen; omega) (by omega) (by omega) ?next3)
                  case next3 =>
                    intro v3 w3 h3 hf3 hv3
                    have HP := Lib.hid (sls_push elOk1 (B := w.heap.size) HSS.out HO.out HE.out HST.out (bel_alloc _ _) h3 hf3 (by simpa using hv3) HB2.out.size)
                    clear h3 hf3 hv3
                    go_wp2_with fail
                    go_roundg g
                    case measure => omega
                    case rel => exact ⟨p + 4 + n, acc ++ [t], by go_num, by omega, hp2, by simp; omega, HB2.out.trans HP.out.2, HP.out.1, HXX⟩
      · have HXX : Hid (X = (acc, 0, 0)) := Lib.hid (by rw [HU.out]; exact unpR_end (by omega))
        have hpz : ¬ (p : Int) < (bs.length : Int) := by omega
        clear hbe hS
        go_wp2_with fail
        go_ret3
        exact ⟨⟨_, by rw [HXX.out]; rfl, by rw [HXX.out]; exact HS.out⟩, HBE.out⟩
end Go.Proofs.YtkhjdcnlpablkaaDoor

/-! The document's Unpack. -/
namespace Go.Proofs.YtkhjdcnlpablkaaDoor
open Go.RowKit
open Go.Lib (byteCells)

theorem fr64 {w w' : World} {v : Value} {n rb e size : Nat} {vs : List Value} {c : Array Value} (hs : Sl w e size v n vs) (hb : w.heap[rb]? = some (.cells c 64 (0, 0))) (he : e ≠ 64) (hf : Fr (fun k => k = rb ∨ (Value.slice none 0 0).ownBlock = some k) w w') : Sl w' e size v n vs :=
  hf.sl hs fun k hk hv => by
    rcases hv with rfl | hv
    · exact hs.ne hb he k hk rfl
    · simp [Value.ownBlock] at hv
theorem sls_dw {B rb : Nat} {w w' : World} {v bv : Value} {bs : List UInt8} {s : Ds} {ls : List (List Ce)} (h : SLs El1 B w v ls) (hd : Dp B w rb bv (.slice none 0 0) bs s) (hf : Fr (fun k => k = rb ∨ (Value.slice none 0 0).ownBlock = some k) w w') : SLs El1 B w' v ls := by
  obtain ⟨vs, h1, h2, h3⟩ := h
  exact ⟨vs, fr64 h1 hd.blk (by decide) hf, h2, fun i t ht => by
    obtain ⟨u, hu, he⟩ := h3 i t ht
    exact ⟨u, hu, fr64 he hd.blk (by decide) hf⟩⟩
theorem dp_fr {B rb n : Nat} {w w' : World} {v bv : Value} {bs : List UInt8} {s : Ds} {vs : List Value} (hd : Dp B w rb bv (.slice none 0 0) bs s) (hs : Sl w 24 1 v n vs) (hf : Fr (fun k => v.ownBlock = some k) w w') (ho : ∀ k, v.ownBlock = some k → B ≤ k) (hso : s.out = []) : Dp B w' rb bv (.slice none 0 0) bs s :=
  ⟨hf.at hd.blk (fun hv => hs.ne hd.blk (by decide) rb hv rfl), by rw [hso]; exact Sl.nil _ _ _, hd.inp.step (hf.below hd.Ble ho), hd.hB, fun k hk => by simp [Value.ownBlock] at hk, hd.le⟩

set_option maxHeartbeats 3200000 in
set_option maxRecDepth 100000 in
theorem rumpack_any (bs : List UInt8) (v : Value) (w : World) (hr : Rd w 1 v bs.length (byteCells bs)) :
    Calls Tryd.prog 30 #[v] w fun e w' => UnP w (unp bs) e w' ∧ Below w.heap.size w w' := by
  obtain ⟨i0, hinf, hz0, hz1, hz2⟩ := info_parts Tryd.info24b
  have HR := Lib.hid hr
  obtain ⟨ao, cap, rfl, hcap, hmax⟩ := hr.shape
  unfold maxLen at hmax
  obtain ⟨X, hX⟩ : ∃ X, unp bs = X := ⟨_, rfl⟩
  rw [hX]
  have HX := Lib.hid hX.symm
  clear hX hr
  by_cases hbig : 1048576 < bs.length
  · have t1 : decide (1048576 < (bs.length : Int)) = true := by simp; omega
    have t2 : decide (1048576 < bs.length) = true := by simp; omega
    have HF : Hid (X = ([], 4, 0)) := Lib.hid (by rw [HX.out]; unfold unp; rw [if_pos hbig])
    clear hbig
    go_enter Tryd.func30, Tryd.ntmps30
    go_wp2_with fail
    go_ret3
    exact ⟨⟨_, by rw [HF.out]; rfl, by rw [HF.out]; exact SLs.nil _ _ _⟩, Below.refl _ _⟩
  · have t1 : decide (1048576 < (bs.length : Int)) = false := by simp; omega
    have t2 : decide (1048576 < bs.length) = false := by simp; omega
    have hle : bs.length ≤ 1048576 := by omega
    have HF : Hid (X = unpR bs (bs.length + 1) 0 []) := Lib.hid (by rw [HX.out]; unfold unp; rw [if_neg hbig])
    have hbel : Below w.heap.size w (w.alloc (.cells #[.slice ao bs.length cap, .int .i64 0, .slice none 0 0, .int .i64 0, .int .i64 0, .int .i64 0] 64)) := bel_alloc _ _
    have HD0 : Hid (Dp w.heap.size (w.alloc (.cells #[.slice ao bs.length cap, .int .i64 0, .slice none 0 0, .int .i64 0, .int .i64 0, .int .i64 0] 64)) w.heap.size (.slice ao bs.length cap) (.slice none 0 0) bs ⟨0, 0, [], 0, 0⟩) :=
      Lib.hid ⟨heap_alloc_new w _, Sl.nil _ _ _, (RdU.of HR.out (Nat.le_refl _)).step hbel, Nat.le_refl _, (fun k hk => by cases hk), Nat.zero_le _⟩
    have HBEL := Lib.hid hbel
    clear hbig hbel
    go_enter Tryd.func30, Tryd.ntmps30
    go_wp2_with fail
    clear t1 t2
    go_loopg [5, 7, 8, 9, 10, 11, 12, 13] bs.length (fun g s5 _ _ _ _ _ _ _ wr => ∃ (p : Nat) (acc : List (List Ce)), bs.length - p ≤ g ∧ p ≤ bs.length ∧ acc.length ≤ p ∧ Below w.heap.size w wr ∧ SLs El1 w.heap.size wr s5 acc ∧ Hid (Dp w.heap.size wr w.heap.size (.slice ao bs.length cap) (.slice none 0 0) bs ⟨p, 0, [], 0, 0⟩) ∧ Hid (X = unpR bs (g + 1) p acc))
    case atStart => exact ⟨0, [], by omega, by omega, by simp, HBEL.out, SLs.nil _ _ _, HD0, HF⟩
    case round =>
      obtain ⟨p, acc, hpg, hpl, hal, hbe, hS, HD, HU⟩ := hrel
      have HBE := Lib.hid hbe
      have HS := Lib.hid hS
      obtain ⟨c0, c1, c2, c3, c4, c5⟩ := Ds.cell HD.out.blk
      simp only at c1
      clear HF c0 c2 c3 c4 c5
      by_cases hlt : p < bs.length
      · cases gk with
        | zero => omega
        | succ g =>
          have hpz : (p : Int) < (bs.length : Int) := by omega
          have H42 := Lib.hid (dnum_any w.heap.size w.heap.size _ _ bs ⟨p, 0, [], 0, 0⟩ 4 hle (by omega) (by omega) wr HD.out rfl)
          clear hbe hS
          by_cases h4 : bs.length < p + 4
          · have HN : Hid (numD bs p 4 = .bad 62 bs.length) := Lib.hid (by unfold numD; rw [if_pos h4])
            have HXX : Hid (X = ([], 62, p)) := Lib.hid (by rw [HU.out]; exact unpR_short hlt (by omega))
            go_wp2_with fail
            refine (H42.out).mono ?_
            rintro e w1 h1
            obtain ⟨rfl, sv', s', hdw, _⟩ := h1.badE HN.out
            have HB1 := Lib.hid (HBE.out.trans (hdw.bel HD.out))
            clear h1 hdw H42
            go_wp2_with fail
            go_ret3
            exact ⟨⟨_, by rw [HXX.out]; rfl, by rw [HXX.out]; exact SLs.nil _ _ _⟩, HB1.out⟩
          · obtain ⟨n, hn⟩ : ∃ n, beN ((bs.drop p).take 4) = n := ⟨_, rfl⟩
            have HBN := Lib.hid hn
            have HN : Hid (numD bs p 4 = .ok n) := Lib.hid (by unfold numD; rw [if_neg h4, ← hn]; rfl)
            have hn32 : n < 4294967296 := by
              have := beN_lt ((bs.drop p).take 4)
              rw [List.length_take, List.length_drop, show min 4 (bs.length - p) = 4 by omega, hn] at this
              exact this
            have HN4 : Hid (¬ bs.length - p < 4) := Lib.hid (by omega)
            clear hn
            go_wp2_with fail
            refine (H42.out).mono ?_
            rintro e w1 h1
            obtain ⟨rfl, hdw⟩ := h1.okE HN.out
            have HB1 := Lib.hid (HBE.out.trans (hdw.bel HD.out))
            have HS1 := Lib.hid (sls_dw HS.out HD.out hdw.fr)
            have HD1 := Lib.hid hdw.rp
            have H43 := Lib.hid (dtake_any w.heap.size w.heap.size _ _ bs ⟨p + 4, 0, [], 0, 0⟩ n hle (by omega) (by omega) w1 hdw.rp rfl)
            clear h1 hdw H42
            by_cases hov : bs.length < p + 4 + n
            · have HT : Hid (takeD bs (p + 4) n = .bad 62 bs.length) := Lib.hid (by unfold takeD; rw [if_pos hov])
              have HXX : Hid (X = ([], 62, p)) := Lib.hid (by rw [HU.out]; exact unpR_over HN4.out (by rw [HBN.out]; omega))
              go_wp2_with fail
              refine (H43.out).mono ?_
              rintro e w2 h2
              obtain ⟨rfl, sv', s', hdw, _⟩ := h2.badE HT.out
              have HB2 := Lib.hid (HB1.out.trans (hdw.bel HD1.out))
              clear h2 hdw H43
              go_wp2_with fail
              go_ret3
              exact ⟨⟨_, by rw [HXX.out]; rfl, by rw [HXX.out]; exact SLs.nil _ _ _⟩, HB2.out⟩
            · have HT : Hid (takeD bs (p + 4) n = .ok (rest bs (p + 4) n)) := Lib.hid (by unfold takeD; rw [if_neg hov])
              have HNO : Hid (¬ bs.length - p - 4 < n) := Lib.hid (by omega)
              have hp2 : p + 4 + n ≤ bs.length := by omega
              clear hov h4
              go_wp2_with fail
              refine (H43.out).mono ?_
              rintro e w2 h2
              obtain ⟨hll, ⟨g2, o2, ca2, rfl, hru⟩, hdw⟩ := h2.okE HT.out
              have HB2 := Lib.hid (HB1.out.trans (hdw.bel HD1.out))
              have HS2 := Lib.hid (sls_dw HS1.out HD1.out hdw.fr)
              have HD2 := Lib.hid hdw.rp
              have h11 := RDecode_any (rest bs (p + 4) n) (.slice (some ⟨g2, o2, none⟩) n ca2) w2 (by rw [rest_len hp2]; exact hru.now)
              obtain ⟨D, hD⟩ : ∃ D, decD (rest bs (p + 4) n) = D := ⟨_, rfl⟩
              rw [hD] at h11
              have HDX := Lib.hid hD
              have H11 := Lib.hid h11
              clear h2 hdw H43 hru hll h11 hD HS1 HD1 HD
              go_wp2_with fail
              refine (H11.out).mono ?_
              rintro e w3 ⟨hd3, hb3⟩
              have HB3 := Lib.hid (HB2.out.trans (hb3.mono HB2.out.size))
              have HS3 := Lib.hid (HS2.out.bel elOk1 hb3)
              have HD3 := Lib.hid (HD2.out.below hb3)
              clear hb3 H11 HS2 HD2
              cases D with
              | bad e q =>
                have hnz := nz_dec _ _ _ HDX.out
                obtain rfl := hd3
                have q5 : ((e : Int) == 0) = false := by simp; omega
                have q6 : ((e : Int) != 0) = true := by simp; omega
                have HXX : Hid (X = ([], e, p)) := Lib.hid (by rw [HU.out]; exact unpR_bad HN4.out HBN.out HNO.out HDX.out)
                clear hnz
                go_wp2_with fail
                go_ret3
                exact ⟨⟨_, by rw [HXX.out]; rfl, by rw [HXX.out]; exact SLs.nil _ _ _⟩, HB3.out⟩
              | ok t =>
                obtain ⟨vt, rfl, hst, _⟩ := hd3
                have HST := Lib.hid hst
                have HXX : Hid (X = unpR bs (g + 1) (p + 4 + n) (acc ++ [t])) := Lib.hid (by rw [HU.out]; exact unpR_ok HN4.out HBN.out HNO.out HDX.out)
                obtain ⟨aot, capt, rfl, _, _⟩ := hst.shape
                obtain ⟨vs, hs, ho, he⟩ := HS3.out
                have HSS := Lib.hid hs
                have HO := Lib.hid ho
                have HE := Lib.hid he
                clear hst hs ho he HS HS3
                go_wp2_with (at_builtin; refine wpList_append_one rfl (.tmp 58) (.tmp 60) 43 rfl 24 i0 (.slice none 0 0) 1 24 Tryd.underlying43 hinf hz0 hz1 hz2 rfl (by decide) _ acc.length vs rfl (HSS.out.alloc _) ⟨w3.heap.size, 0, none⟩ 1 [.slice aot t.length capt] rfl rfl (cells_new w3 _ 24) (fun u hu => by simp at hu; subst hu; rfl) (by unfold maxLen; omega) (by omega) (by omega) ?next3)
                case next3 =>
                  intro v4 w4 h4' hf4 hv4
                  have HP := Lib.hid (sls_push elOk1 (B := w.heap.size) HSS.out HO.out HE.out HST.out (bel_alloc _ _) h4' hf4 (by simpa using hv4) HB3.out.size)
                  have HD4 := Lib.hid (dp_fr (HD3.out.below (bel_alloc _ _)) (HSS.out.alloc _) hf4 HO.out rfl)
                  clear h4' hf4 hv4
                  go_wp2_with fail
                  go_roundg g
                  case measure => omega
                  case rel => exact ⟨p + 4 + n, acc ++ [t], by omega, hp2, by simp; omega, HB3.out.trans HP.out.2, HP.out.1, HD4, HXX⟩
      · have HXX : Hid (X = (acc, 0, 0)) := Lib.hid (by rw [HU.out]; exact unpR_end (by omega))
        have hpz : ¬ (p : Int) < (bs.length : Int) := by omega
        clear hbe hS
        go_wp2_with fail
        go_ret3
        exact ⟨⟨_, by rw [HXX.out]; rfl, by rw [HXX.out]; exact HS.out⟩, HBE.out⟩
end Go.Proofs.YtkhjdcnlpablkaaDoor

/-! lent: bytes with one behind them. -/
namespace Go.Proofs.YtkhjdcnlpablkaaDoor
open Go.RowKit
open Go.Lib (byteCells)

/-- Bytes l, of a block from B on, and a byte x behind them. -/
def LentB (B : Nat) (w : World) (v : Value) (l : List UInt8) (x : UInt8) : Prop := ∃ g off cap, v = .slice (some ⟨g, off, none⟩) l.length cap ∧ l.length + 1 ≤ cap ∧ cap ≤ maxLen ∧ B ≤ g ∧ Sl w 5 1 (.slice (some ⟨g, off, none⟩) (l.length + 1) cap) (l.length + 1) (byteCells (l ++ [x]))
theorem LentB.below {B : Nat} {w w' : World} {v : Value} {l : List UInt8} {x : UInt8} (h : LentB B w v l x) (hb : Below w.heap.size w w') : LentB B w' v l x := by
  obtain ⟨g, off, cap, h1, h2, h3, h4, h5⟩ := h
  exact ⟨g, off, cap, h1, h2, h3, h4, h5.keep fun k hk => hb.block k (h5.lt k hk)⟩
theorem LentB.bs {B : Nat} {w : World} {v : Value} {l : List UInt8} {x : UInt8} (h : LentB B w v l x) : Bs B w v l := by
  obtain ⟨g, off, cap, rfl, h2, h3, h4, h5⟩ := h
  have := h5.take (m := l.length) (by omega)
  rw [Lib.byteCells_append, List.take_left' (by rw [Lib.byteCells_length]; omega)] at this
  exact ⟨this, fun k hk => by simp [Value.ownBlock] at hk; omega⟩

set_option maxHeartbeats 1600000 in
set_option maxRecDepth 100000 in
theorem lent_any (l : List UInt8) (v : Value) (w : World) (hr : Rd w 1 v l.length (byteCells l)) (hl : l.length ≤ 140737488355328) :
    Calls Tryd.prog 9 #[v] w fun e w' => ∃ v', e = .returned v' ∧ LentB w.heap.size w' v' l 77 ∧ Below w.heap.size w w' := by
  obtain ⟨i0, hinf, hz0, hz1, hz2⟩ := info_parts Tryd.info5
  obtain ⟨ao, cap, rfl, _, _⟩ := hr.shape
  have HR := Lib.hid hr
  clear hr
  go_enter Tryd.func9, Tryd.ntmps9
  go_wp2_with (at_builtin; refine wpList_bytes_rd (.tmp 4) (.tmp 5) l rfl rfl rfl rfl (Bs.nil w.heap.size _) HR.out (Nat.le_refl _) (by simp; omega) ?next)
  case next =>
    intro v1 w1 h1
    obtain ⟨ao1, cap1, rfl, hc1, hm1⟩ := h1.bs.shape
    have H1 := Lib.hid h1
    have hz := h1.bel.size
    clear h1
    go_wp2_with (at_builtin; refine wpList_append_one rfl (.tmp 7) (.tmp 8) 22 rfl 5 i0 (.int .u8 0) 1 1 Tryd.underlying22 hinf hz0 hz1 hz2 rfl (by decide) _ l.length (byteCells l) rfl (H1.out.bs.sl.alloc _) ⟨w1.heap.size, 0, none⟩ 1 (byteCells [77]) rfl rfl (cells_new w1 (byteCells [77]) 5) (fun u hu => Lib.byteCells_one _ u hu) (by unfold maxLen; omega) (by omega) (by omega) ?next2)
    case next2 =>
      intro v2 w2 h2 hf2 hv2
      obtain ⟨g, off, cap2, cur, rfl, hc2, hm2, _⟩ := h2.blk (by omega)
      have hF : Fr (fun q => Value.ownBlock (.slice ao1 l.length cap1) = some q) w1 w2 := ((Fr.refl _ w1).alloc _).trans hf2
      have hn : w.heap.size ≤ g := by
        rcases hv2 with e | e
        · exact H1.out.bs.own g (e ▸ rfl)
        · simp [Value.ownBlock] at e; omega
      have HB := Lib.hid (H1.out.bel.trans (hF.below hz H1.out.bs.own))
      have H2 : Hid (Sl w2 5 1 (.slice (some ⟨g, off, none⟩) (l.length + 1) cap2) (l.length + 1) (byteCells (l ++ [77]))) := Lib.hid (by rw [Lib.byteCells_append]; exact h2)
      have hm3 := hm2
      unfold maxLen at hm3
      clear hF h2 hf2 hv2 H1
      go_wp2_with fail
      go_ret
      exact ⟨_, rfl, ⟨g, off, cap2, rfl, hc2, hm2, hn, H2.out⟩, HB.out⟩

set_option maxHeartbeats 1600000 in
set_option maxRecDepth 100000 in
theorem kept_any (B : Nat) (l : List UInt8) (v u : Value) (w : World) (hr : Rd w 1 u l.length (byteCells l)) (hl : LentB B w v l 77) (hle : l.length ≤ 140737488355328) :
    Calls Tryd.prog 13 #[v, u] w fun e w' => e = .returned (.bool true) ∧ Below w.heap.size w w' := by
  have HS := Lib.hid (bsame_any l l v u w hl.bs.sl.rd hr)
  obtain ⟨ao, capu, rfl, _, _⟩ := hr.shape
  obtain ⟨g, off, cap, rfl, h2, h3, h4, h5⟩ := hl
  have hm3 := h3
  unfold maxLen at hm3
  have H5 := Lib.hid h5
  clear hr h5
  go_enter Tryd.func13, Tryd.ntmps13
  go_wp2_with fail
  refine (HS.out).mono ?_
  rintro e w1 ⟨b, rfl, hb, hbe⟩
  obtain rfl : b = true := hb.2 (by trivial)
  have h6 : Sl w1 5 1 (.slice (some ⟨g, off, none⟩) (l.length + 1) cap) (l.length + 1) (byteCells (l ++ [77])) := H5.out.keep fun k hk => hbe.block k (H5.out.lt k hk)
  have c3 := h6.cell l.length (by omega)
  rw [show (byteCells (l ++ [77]))[l.length]? = some (.int .u8 77) by rw [Lib.byteCells_append, List.getElem?_append_right (by rw [Lib.byteCells_length]; omega), Lib.byteCells_length, Nat.sub_self]; rfl] at c3
  have HB := Lib.hid hbe
  clear h6 hb hbe HS H5
  go_wp2_with fail
  go_ret
  exact ⟨rfl, HB.out⟩
end Go.Proofs.YtkhjdcnlpablkaaDoor

/-! EtfPackets: the walk. -/
namespace Go.Proofs.YtkhjdcnlpablkaaDoor
open Go.RowKit
open Go.Lib (byteCells)

set_option maxHeartbeats 6400000 in
set_option maxRecDepth 100000 in
theorem etfPackets_walk (ls : List (List Ce)) (b : List UInt8) (u v : Value) (hk : ∀ t ∈ ls, OkCes t) (w : World) (hr : RLs w u ls) (hb : Rd w 1 v b.length (byteCells b)) (hn : ls.length ≤ 1048576) (hl : ∀ t ∈ ls, t.length ≤ 1048576) (hp : (pkB ls).length ≤ 900000000000) (hbl : b.length ≤ 140737488355328) (hT : Lib.Utf8Tabs 0 1 w) :
    Calls Tryd.prog 8 #[u, v] w fun e w' => e = .returned (.bool true) ∧ Below w.heap.size w w' := by
  have HT : Hid (∀ W, Below w.heap.size w W → Lib.Utf8Tabs 0 1 W) := Lib.hid (fun W h => tabs_below hT (Nat.le_refl _) h)
  have HK := Lib.hid hk
  have HR := Lib.hid hr
  have HB := Lib.hid hb
  have HLL := Lib.hid hl
  have HPB := Lib.hid hp
  have HBL := Lib.hid hbl
  have H24 := Lib.hid (lents_any ls u w hr hn hl)
  obtain ⟨ao, cap, rfl, _, _⟩ := hr.shape
  obtain ⟨aob, capb, rfl, _, _⟩ := hb.shape
  obtain ⟨E, hE⟩ : ∃ E, pkX ls = E := ⟨_, rfl⟩
  have HE := Lib.hid hE
  obtain ⟨R, hR⟩ : ∃ R, pkR 0 ls = R := ⟨_, rfl⟩
  have HRR := Lib.hid hR
  obtain ⟨e1, p1⟩ := R
  obtain ⟨Y, hY⟩ : ∃ Y, unp b = Y := ⟨_, rfl⟩
  have HY := Lib.hid hY
  obtain ⟨U, e2, p2⟩ := Y
  have q1 : ((e1 : Int) != (e1 : Int)) = false := by simp
  have q2 : ((p1 : Int) != (p1 : Int)) = false := by simp
  clear hk hr hb hl hp hbl hT hE hR hY
  go_enter Tryd.func8, Tryd.ntmps8
  go_wp2_with fail
  refine (H24.out).mono ?_
  rintro e w1 ⟨v1, rfl, hl1, hb1⟩
  have HL1 := Lib.hid hl1
  have HB1 := Lib.hid hb1
  have h25 := packets_any ls v1 HK.out w1 hl1.rls HPB.out (fun W hW => HT.out W (hb1.trans (hW.mono hb1.size)))
  rw [HE.out, HRR.out] at h25
  have H25 := Lib.hid h25
  obtain ⟨ao1, cap1, rfl, _, _⟩ := hl1.rls.shape
  clear hl1 hb1 h25 H24
  go_wp2_with fail
  refine (H25.out).mono ?_
  rintro e w2 ⟨va, rfl, hba, hb2⟩
  have HBA := Lib.hid hba
  have HL2 := Lib.hid (HL1.out.bel hb2)
  have HB2 := Lib.hid (HB1.out.trans (hb2.mono HB1.out.size))
  have h26 := rpackets_any ls _ HK.out w2 (HR.out.below (Nat.le_refl _) HB2.out) HPB.out
  rw [HE.out, HRR.out] at h26
  have H26 := Lib.hid h26
  obtain ⟨aoa, capa, rfl, _, _⟩ := hba.shape
  clear hba hb2 h26 H25 HL1 HB1
  go_wp2_with fail
  refine (H26.out).mono ?_
  rintro e w3 ⟨vb, rfl, hbb, hb3⟩
  have HBB := Lib.hid hbb
  have HBA3 := Lib.hid (HBA.out.below hb3)
  have HL3 := Lib.hid (HL2.out.bel hb3)
  have HB3 := Lib.hid (HB2.out.trans (hb3.mono HB2.out.size))
  have H18 := Lib.hid (bsame_any E E _ _ w3 HBA3.out.sl.rd hbb.sl.rd)
  obtain ⟨aob2, capb2, rfl, _, _⟩ := hbb.shape
  clear hbb hb3 H26 HL2 HB2 HBA
  go_wp2_with fail
  refine (H18.out).mono ?_
  rintro e w4 ⟨bb, rfl, hbt, hb4⟩
  obtain rfl : bb = true := hbt.2 (by trivial)
  have HBA4 := Lib.hid (HBA3.out.below hb4)
  have HL4 := Lib.hid (HL3.out.bel hb4)
  have HB4 := Lib.hid (HB3.out.trans (hb4.mono HB3.out.size))
  have H27 := Lib.hid (keptAll_any ls _ _ w4 (HR.out.below (Nat.le_refl _) HB4.out) HL4.out hn HLL.out)
  clear hbt hb4 H18 HL3 HB3 HBA3 HBB
  go_wp2_with fail
  refine (H27.out).mono ?_
  rintro e w5 ⟨rfl, hb5⟩
  have HBA5 := Lib.hid (HBA4.out.below hb5)
  have HB5 := Lib.hid (HB4.out.trans (hb5.mono HB4.out.size))
  clear hb5 H27 HL4 HB4 HBA4
  by_cases h0 : e1 = 0
  · subst h0
    by_cases hbig : 1048576 < E.length
    · have t1 : decide ((E.length : Int) ≤ 1048576) = false := by simp; omega
      have t2 : decide (E.length ≤ 1048576) = false := by simp; omega
      have H9 := Lib.hid (lent_any b _ w5 (HB.out.below (Nat.le_refl _) HB5.out) HBL.out)
      have HB7 := HB5
      clear hbig HB5
      go_wp2_with fail
      refine (H9.out).mono ?_
      rintro e w8 ⟨v8, rfl, hl8, hb8⟩
      have HL8 := Lib.hid hl8
      have HB8 := Lib.hid (HB7.out.trans (hb8.mono HB7.out.size))
      have h28 := unpack_any b v8 w8 hl8.bs.sl.rd (fun W hW => HT.out W (HB8.out.trans (hW.mono HB8.out.size)))
      rw [HY.out] at h28
      have H28 := Lib.hid h28
      obtain ⟨ao8, cap8, rfl, _, _⟩ := hl8.bs.shape
      clear hl8 hb8 h28 H9 HB7
      go_wp2_with fail
      refine (H28.out).mono ?_
      rintro e w9 ⟨⟨v9, rfl, hs9⟩, hb9⟩
      have HS9 := Lib.hid hs9
      have HL9 := Lib.hid (HL8.out.below hb9)
      have HB9 := Lib.hid (HB8.out.trans (hb9.mono HB8.out.size))
      have h30 := rumpack_any b _ w9 (HB.out.below (Nat.le_refl _) HB9.out)
      rw [HY.out] at h30
      have H30 := Lib.hid h30
      obtain ⟨ao9, cap9, rfl, _, _⟩ := hs9.shape
      clear hs9 hb9 h30 H28 HL8 HB8
      go_wp2_with fail
      refine (H30.out).mono ?_
      rintro e w10 ⟨⟨v10, rfl, hs10⟩, hb10⟩
      have HL10 := Lib.hid (HL9.out.below hb10)
      have HB10 := Lib.hid (HB9.out.trans (hb10.mono HB9.out.size))
      have H29 := Lib.hid (sameAll_any U _ _ w10 (HS9.out.bel elOk1 hb10).rls hs10.rls)
      obtain ⟨ao10, cap10, rfl, _, _⟩ := hs10.shape
      clear hs10 hb10 H30 HL9 HB9 HS9
      go_wp2_with fail
      refine (H29.out).mono ?_
      rintro e w11 ⟨rfl, hb11⟩
      have HL11 := Lib.hid (HL10.out.below hb11)
      have HB11 := Lib.hid (HB10.out.trans (hb11.mono HB10.out.size))
      have H13 := Lib.hid (kept_any _ b _ _ w11 (HB.out.below (Nat.le_refl _) HB11.out) HL11.out HBL.out)
      clear hb11 H29 HL10 HB10
      go_wp2_with fail
      refine (H13.out).mono ?_
      rintro e w12 ⟨rfl, hb12⟩
      have HB12 := Lib.hid (HB11.out.trans (hb12.mono HB11.out.size))
      have HAW := Lib.hid (awake_any w12 (fun W hW => HT.out W (HB12.out.trans (hW.mono HB12.out.size))))
      clear hb12 H13 HL11 HB11
      go_wp2_with fail
      refine (HAW.out).mono ?_
      rintro e w13 ⟨rfl, hb13⟩
      have HB13 := Lib.hid (HB12.out.trans (hb13.mono HB12.out.size))
      clear hb13 HAW
      go_wp2_with fail
      go_ret
      exact ⟨rfl, HB13.out⟩
    · have t1 : decide ((E.length : Int) ≤ 1048576) = true := by simp; omega
      have t2 : decide (E.length ≤ 1048576) = true := by simp; omega
      have HU : Hid (unp E = (ls, 0, 0)) := Lib.hid (by
        have hz : (pkR 0 ls).1 = 0 := by rw [HRR.out]
        have hx : pkB ls = E := by rw [← HE.out]; unfold pkX; rw [if_pos hz]
        rw [← hx]
        exact unp_pk hz HK.out (by rw [hx]; omega))
      have h28 := unpack_any E _ w5 HBA5.out.sl.rd (fun W hW => HT.out W (HB5.out.trans (hW.mono HB5.out.size)))
      rw [HU.out] at h28
      have H28a := Lib.hid h28
      clear hbig h28
      go_wp2_with fail
      refine (H28a.out).mono ?_
      rintro e w6 ⟨⟨vu, rfl, hsu⟩, hb6⟩
      have HB6 := Lib.hid (HB5.out.trans (hb6.mono HB5.out.size))
      have H29a := Lib.hid (sameAll_any ls _ _ w6 hsu.rls (HR.out.below (Nat.le_refl _) HB6.out))
      obtain ⟨aou, capu, rfl, _, _⟩ := hsu.shape
      clear hsu hb6 HB5 H28a
      go_wp2_with fail
      refine (H29a.out).mono ?_
      rintro e w7 ⟨rfl, hb7⟩
      have HB7 := Lib.hid (HB6.out.trans (hb7.mono HB6.out.size))
      have H9 := Lib.hid (lent_any b _ w7 (HB.out.below (Nat.le_refl _) HB7.out) HBL.out)
      clear hb7 HB6 H29a
      go_wp2_with fail
      refine (H9.out).mono ?_
      rintro e w8 ⟨v8, rfl, hl8, hb8⟩
      have HL8 := Lib.hid hl8
      have HB8 := Lib.hid (HB7.out.trans (hb8.mono HB7.out.size))
      have h28 := unpack_any b v8 w8 hl8.bs.sl.rd (fun W hW => HT.out W (HB8.out.trans (hW.mono HB8.out.size)))
      rw [HY.out] at h28
      have H28 := Lib.hid h28
      obtain ⟨ao8, cap8, rfl, _, _⟩ := hl8.bs.shape
      clear hl8 hb8 h28 H9 HB7
      go_wp2_with fail
      refine (H28.out).mono ?_
      rintro e w9 ⟨⟨v9, rfl, hs9⟩, hb9⟩
      have HS9 := Lib.hid hs9
      have HL9 := Lib.hid (HL8.out.below hb9)
      have HB9 := Lib.hid (HB8.out.trans (hb9.mono HB8.out.size))
      have h30 := rumpack_any b _ w9 (HB.out.below (Nat.le_refl _) HB9.out)
      rw [HY.out] at h30
      have H30 := Lib.hid h30
      obtain ⟨ao9, cap9, rfl, _, _⟩ := hs9.shape
      clear hs9 hb9 h30 H28 HL8 HB8
      go_wp2_with fail
      refine (H30.out).mono ?_
      rintro e w10 ⟨⟨v10, rfl, hs10⟩, hb10⟩
      have HL10 := Lib.hid (HL9.out.below hb10)
      have HB10 := Lib.hid (HB9.out.trans (hb10.mono HB9.out.size))
      have H29 := Lib.hid (sameAll_any U _ _ w10 (HS9.out.bel elOk1 hb10).rls hs10.rls)
      obtain ⟨ao10, cap10, rfl, _, _⟩ := hs10.shape
      clear hs10 hb10 H30 HL9 HB9 HS9
      go_wp2_with fail
      refine (H29.out).mono ?_
      rintro e w11 ⟨rfl, hb11⟩
      have HL11 := Lib.hid (HL10.out.below hb11)
      have HB11 := Lib.hid (HB10.out.trans (hb11.mono HB10.out.size))
      have H13 := Lib.hid (kept_any _ b _ _ w11 (HB.out.below (Nat.le_refl _) HB11.out) HL11.out HBL.out)
      clear hb11 H29 HL10 HB10
      go_wp2_with fail
      refine (H13.out).mono ?_
      rintro e w12 ⟨rfl, hb12⟩
      have HB12 := Lib.hid (HB11.out.trans (hb12.mono HB11.out.size))
      have HAW := Lib.hid (awake_any w12 (fun W hW => HT.out W (HB12.out.trans (hW.mono HB12.out.size))))
      clear hb12 H13 HL11 HB11
      go_wp2_with fail
      refine (HAW.out).mono ?_
      rintro e w13 ⟨rfl, hb13⟩
      have HB13 := Lib.hid (HB12.out.trans (hb13.mono HB12.out.size))
      clear hb13 HAW
      go_wp2_with fail
      go_ret
      exact ⟨rfl, HB13.out⟩
  · have s1 : ((e1 : Int) == 0) = false := by simp; omega
    have s2 : (e1 == 0) = false := by simp; omega
    have H9 := Lib.hid (lent_any b _ w5 (HB.out.below (Nat.le_refl _) HB5.out) HBL.out)
    have HB7 := HB5
    clear HB5
    go_wp2_with fail
    refine (H9.out).mono ?_
    rintro e w8 ⟨v8, rfl, hl8, hb8⟩
    have HL8 := Lib.hid hl8
    have HB8 := Lib.hid (HB7.out.trans (hb8.mono HB7.out.size))
    have h28 := unpack_any b v8 w8 hl8.bs.sl.rd (fun W hW => HT.out W (HB8.out.trans (hW.mono HB8.out.size)))
    rw [HY.out] at h28
    have H28 := Lib.hid h28
    obtain ⟨ao8, cap8, rfl, _, _⟩ := hl8.bs.shape
    clear hl8 hb8 h28 H9 HB7
    go_wp2_with fail
    refine (H28.out).mono ?_
    rintro e w9 ⟨⟨v9, rfl, hs9⟩, hb9⟩
    have HS9 := Lib.hid hs9
    have HL9 := Lib.hid (HL8.out.below hb9)
    have HB9 := Lib.hid (HB8.out.trans (hb9.mono HB8.out.size))
    have h30 := rumpack_any b _ w9 (HB.out.below (Nat.le_refl _) HB9.out)
    rw [HY.out] at h30
    have H30 := Lib.hid h30
    obtain ⟨ao9, cap9, rfl, _, _⟩ := hs9.shape
    clear hs9 hb9 h30 H28 HL8 HB8
    go_wp2_with fail
    refine (H30.out).mono ?_
    rintro e w10 ⟨⟨v10, rfl, hs10⟩, hb10⟩
    have HL10 := Lib.hid (HL9.out.below hb10)
    have HB10 := Lib.hid (HB9.out.trans (hb10.mono HB9.out.size))
    have H29 := Lib.hid (sameAll_any U _ _ w10 (HS9.out.bel elOk1 hb10).rls hs10.rls)
    obtain ⟨ao10, cap10, rfl, _, _⟩ := hs10.shape
    clear hs10 hb10 H30 HL9 HB9 HS9
    go_wp2_with fail
    refine (H29.out).mono ?_
    rintro e w11 ⟨rfl, hb11⟩
    have HL11 := Lib.hid (HL10.out.below hb11)
    have HB11 := Lib.hid (HB10.out.trans (hb11.mono HB10.out.size))
    have H13 := Lib.hid (kept_any _ b _ _ w11 (HB.out.below (Nat.le_refl _) HB11.out) HL11.out HBL.out)
    clear hb11 H29 HL10 HB10
    go_wp2_with fail
    refine (H13.out).mono ?_
    rintro e w12 ⟨rfl, hb12⟩
    have HB12 := Lib.hid (HB11.out.trans (hb12.mono HB11.out.size))
    have HAW := Lib.hid (awake_any w12 (fun W hW => HT.out W (HB12.out.trans (hW.mono HB12.out.size))))
    clear hb12 H13 HL11 HB11
    go_wp2_with fail
    refine (HAW.out).mono ?_
    rintro e w13 ⟨rfl, hb13⟩
    have HB13 := Lib.hid (HB12.out.trans (hb13.mono HB12.out.size))
    clear hb13 HAW
    go_wp2_with fail
    go_ret
    exact ⟨rfl, HB13.out⟩
end Go.Proofs.YtkhjdcnlpablkaaDoor

/-! Arguments: lists of terms; their bulk. -/
namespace Go.Proofs.YtkhjdcnlpablkaaDoor
open Go.RowKit Go.Lib

/-- Cells and one for each term. -/
def wtL : List (List Ce) → Nat
  | [] => 0
  | t :: r => t.length + 1 + wtL r
theorem wtL_len : ∀ ls : List (List Ce), ls.length ≤ wtL ls
  | [] => Nat.le_refl _
  | t :: r => by have := wtL_len r; simp only [List.length_cons, wtL]; omega
theorem wtL_mem : ∀ (ls : List (List Ce)) (t : List Ce), t ∈ ls → t.length ≤ wtL ls
  | x :: r, t, h => by
    simp only [wtL]
    rcases List.mem_cons.1 h with rfl | h
    · omega
    · have := wtL_mem r t h; omega
theorem pk_wt : ∀ (ls : List (List Ce)), (∀ t ∈ ls, OkCes t) → (pkB ls).length ≤ 524283 * wtL ls
  | [], _ => by simp [pkB]
  | t :: r, h => by
    have h1 := pk_wt r (fun x hx => h x (by simp [hx]))
    have h2 := pk1_len t
    have e : pkB (t :: r) = pk1 t ++ pkB r := by unfold pkB; simp
    rw [e, List.length_append]
    simp only [wtL]
    by_cases ht : rightT t = (0, 0)
    · have h3 := (enc_dec ht (h t (by simp)).num).2
      have h4 : t ≠ [] := by
        rintro rfl
        simp [rightT] at ht
      have h5 : 1 ≤ t.length := by
        cases t with
        | nil => exact absurd rfl h4
        | cons a l => simp
      omega
    · have h3 : (encV t).length = 0 := by unfold encV; rw [if_neg ht]; rfl
      omega
section
variable {H : Type}
theorem bulk_pos : ∀ d : DataW H, 1 ≤ Rows.uptoBulk d := by
  intro d
  unfold Rows.uptoBulk
  split <;> omega
theorem bulk_len : ∀ ds : List (DataW H), ds.length ≤ Rows.uptoBulkAll ds
  | [] => Nat.zero_le _
  | d :: r => by
    have h1 := bulk_len r
    have h2 := bulk_pos d
    simp only [List.length_cons, Rows.uptoBulkAll]
    omega
theorem wt_bulk : ∀ (ls : List (List Ce)) (ds : List (DataW H)), ls.length = ds.length → (∀ (i : Nat) (t : List Ce), ls[i]? = some t → ∃ d, ds[i]? = some d ∧ t.length + 1 ≤ Rows.uptoBulk d) → wtL ls ≤ Rows.uptoBulkAll ds
  | [], _, _, _ => Nat.zero_le _
  | t :: r, [], h, _ => by simp at h
  | t :: r, d :: ds, h, hs => by
    have h1 := wt_bulk r ds (by simpa using h) (fun i x hx => by
      have := hs (i + 1) x (by simpa using hx)
      simpa using this)
    obtain ⟨d', hd, h2⟩ := hs 0 t (by simp)
    simp at hd
    subst hd
    simp only [wtL, Rows.uptoBulkAll]
    omega
variable {enc : TypeId × Value → H} {w : World}
theorem ces_bulk {fuel : Nat} {d : DataW H} {ps : List MemPlace} {ao : Option Addr} {n cap : Nat} (h : DataW.trod enc Tryd.prog w 0 (fun _ => true) true fuel 24 [.slice ao n cap] = some (d, ps)) : n + 1 ≤ Rows.uptoBulk d := by
  rcases DataW.trod_slice Tryd.underlying24 h with ⟨hx, hd⟩ | ⟨a, len, cap', elems, rest, m, _, hx, hd, hb, hl, hm, hlen, _⟩
  · simp at hx hd
    rw [hd.1, hx.2.1]
    exact Nat.le_refl _
  · simp only [Prod.mk.injEq] at hd
    simp at hx
    have := bulk_len (elems.map (·.1))
    rw [List.length_map] at this
    rw [hd.1]
    simp only [Rows.uptoBulk]
    omega
set_option maxRecDepth 100000 in
theorem lls_of {fuel : Nat} {cs : List Value} {d : DataW H} {ps : List MemPlace} (h : DataW.trod enc Tryd.prog w 0 (fun _ => true) true fuel 43 cs = some (d, ps)) (hfit : Fits Tryd.prog 43 d) :
    ∃ (ao : Option Addr) (cap : Nat) (ls : List (List Ce)), cs = [.slice ao ls.length cap] ∧ RLs w (.slice ao ls.length cap) ls ∧ (∀ t ∈ ls, OkCes t) ∧ wtL ls ≤ Rows.uptoBulk d := by
  obtain ⟨ao, n, cap, xss, hcs, hrd, hl, hl1, hreach, _⟩ := rd_slice (size := 1) Tryd.underlying43 (by kernel_rfl) (by decide) h hfit
  have e24 : Tryd.prog.cellsOf 24 = 1 := by kernel_rfl
  rcases DataW.trod_slice Tryd.underlying43 h with ⟨hx, hd⟩ | ⟨a, len, cap', elems, rest, m, _, hx, hd, hb, hll, hm, hlen, hel, _⟩
  · rw [hx] at hcs
    simp at hcs
    obtain ⟨rfl, rfl, rfl⟩ := hcs
    exact ⟨none, 0, [], hx, ⟨_, hrd, fun i t ht => by simp at ht⟩, (fun t ht => by cases ht), Nat.zero_le _⟩
  · simp only [Prod.mk.injEq] at hd
    obtain ⟨rfl, _⟩ := hd
    rw [hx] at hcs
    simp at hcs
    obtain ⟨rfl, rfl, rfl⟩ := hcs
    obtain ⟨ls, hls, hlp⟩ := list_choose (α := Nat) (β := List Ce) (p := fun i t => ∃ u, xss.flatten[i]? = some u ∧ Rd w 3 u t.length (cvs t) ∧ OkCes t ∧ ∃ d', (elems.map (·.1))[i]? = some d' ∧ t.length + 1 ≤ Rows.uptoBulk d') (List.range len) (by
      intro i hi
      have hi' : i < len := by simpa using hi
      have h1 := hel i hi'
      rw [List.getElem?_eq_getElem (by omega), e24] at h1
      obtain ⟨xs, h2, h3⟩ := Option.bind_eq_some_iff.1 h1
      obtain ⟨_, hxl, hxc⟩ := World.cells?_some h2
      obtain ⟨x, rfl⟩ : ∃ x, xs = [x] := by
        match xs, hxl with
        | [x], _ => exact ⟨x, rfl⟩
      obtain ⟨g, off, capx, hv, _, _, hat⟩ := hrd.at (by omega)
      simp at hv
      obtain ⟨rfl, rfl⟩ := hv
      have h4 := hxc 0 (by omega)
      rw [Addr.add_lit, Addr.add_lit] at h4
      have h5 := hat i (by omega)
      simp only [Nat.mul_one, Nat.add_zero] at h4
      rw [h4] at h5
      obtain ⟨ao2, cap2, t, hc2, hr2, hok⟩ := ces_of (d := (elems[i]'(by omega)).1) (ps := (elems[i]'(by omega)).2) h3 (hfit.elem Tryd.underlying43 (List.mem_map.2 ⟨elems[i]'(by omega), List.getElem_mem _, rfl⟩))
      simp at hc2
      subst hc2
      refine ⟨t, _, by rw [← h5]; rfl, hr2, hok, (elems[i]'(by omega)).1, ?_, ces_bulk (ps := (elems[i]'(by omega)).2) h3⟩
      rw [List.getElem?_map, List.getElem?_eq_getElem (by omega)]
      rfl)
    rw [List.length_range] at hls
    subst hls
    have hget : ∀ (i : Nat) (t : List Ce), ls[i]? = some t → ∃ u, xss.flatten[i]? = some u ∧ Rd w 3 u t.length (cvs t) ∧ OkCes t ∧ ∃ d', (elems.map (·.1))[i]? = some d' ∧ t.length + 1 ≤ Rows.uptoBulk d' := by
      intro i t hi
      have hil := (List.getElem?_eq_some_iff.1 hi).1
      obtain ⟨y, hy, hp⟩ := hlp i i (List.getElem?_range (by omega))
      rw [hi] at hy
      cases hy
      exact hp
    refine ⟨_, _, ls, hx, ⟨_, hrd, fun i t hi => ?_⟩, fun t ht => ?_, ?_⟩
    · obtain ⟨u, hu, hr, _⟩ := hget i t hi
      exact ⟨u, hu, hr⟩
    · obtain ⟨i, hi, rfl⟩ := List.getElem_of_mem ht
      obtain ⟨_, _, _, hok, _⟩ := hget i _ (List.getElem?_eq_getElem hi)
      exact hok
    · have h1 := wt_bulk ls (elems.map (·.1)) (by rw [List.length_map, hlen]) (fun i t hi => by
        obtain ⟨_, _, _, _, d', hd', hle⟩ := hget i t hi
        exact ⟨d', hd', hle⟩)
      simp only [Rows.uptoBulk]
      omega
end
end Go.Proofs.YtkhjdcnlpablkaaDoor
