/- The program's reader: fail, take, number, first. -/
import Derived.Test.YtkhjdcnlpablkaaDoorEncode

namespace Go.Proofs.YtkhjdcnlpablkaaDoor
open Go.RowKit
open Go.Lib (byteCells)

/-- A reader's state. -/
structure Pr where
  pos : Nat
  tag : Nat
  cells : Nat
  out : List Ce
  why : Nat
  place : Nat

def Pr.blk (bv sv : Value) (s : Pr) : Obj := .cells #[bv, .int .i64 s.pos, .int .i64 s.tag, .int .i64 s.cells, sv, .int .i64 s.why, .int .i64 s.place] 54 (0, 0)

/-- A reader at block rb, of the bytes bs. -/
structure Rp (B : Nat) (w : World) (rb : Nat) (bv sv : Value) (bs : List UInt8) (s : Pr) : Prop where
  blk : w.heap[rb]? = some (s.blk bv sv)
  sl : Sl w 60 3 sv s.out.length (cvs s.out)
  inp : RdU B w 1 bv bs.length (byteCells bs)
  hB : B ≤ rb
  own : ∀ k, sv.ownBlock = some k → B ≤ k
  le : s.pos ≤ bs.length

/-- What a step of a reader leaves. -/
structure Rw (B : Nat) (w : World) (rb : Nat) (bv sv : Value) (bs : List UInt8) (w' : World) (sv' : Value) (s' : Pr) : Prop where
  rp : Rp B w' rb bv sv' bs s'
  fr : Fr (fun k => k = rb ∨ sv.ownBlock = some k) w w'
  nw : ∀ k, sv'.ownBlock = some k → sv.ownBlock = some k ∨ w.heap.size ≤ k

section
variable {B rb : Nat} {w w' w2 : World} {bv sv sv' sv2 : Value} {bs : List UInt8} {s s' s2 : Pr}

theorem Rp.lt (h : Rp B w rb bv sv bs s) : rb < w.heap.size := blk_lt h.blk
theorem Rp.Ble (h : Rp B w rb bv sv bs s) : B ≤ w.heap.size := by have := h.lt; have := h.hB; omega
theorem Rw.bel (h : Rp B w rb bv sv bs s) (k : Rw B w rb bv sv bs w' sv' s') : Below B w w' :=
  k.fr.below h.Ble fun q hq => by rcases hq with rfl | e; exact h.hB; exact h.own q e
theorem Rw.refl (h : Rp B w rb bv sv bs s) : Rw B w rb bv sv bs w sv s := ⟨h, Fr.refl _ _, fun _ hk => .inl hk⟩
theorem Rw.trans (h : Rw B w rb bv sv bs w' sv' s') (k : Rw B w' rb bv sv' bs w2 sv2 s2) : Rw B w rb bv sv bs w2 sv2 s2 :=
  ⟨k.rp, h.fr.trans' k.fr fun i hi => by
    rcases hi with rfl | e
    · exact .inl (.inl rfl)
    · rcases h.nw i e with e | e
      · exact .inl (.inr e)
      · exact .inr e, fun q hq => by
    rcases k.nw q hq with e | e
    · exact h.nw q e
    · have := h.fr.size; exact .inr (by omega)⟩

/-- Memory made behind it changes nothing. -/
theorem Rp.below (h : Rp B w rb bv sv bs s) (hb : Below w.heap.size w w') : Rp B w' rb bv sv bs s :=
  ⟨(hb.block rb h.lt).trans h.blk, h.sl.keep fun k hk => hb.block k (h.sl.lt k hk), h.inp.step (hb.mono h.Ble), h.hB, h.own, h.le⟩
theorem Rw.behind (hb : Below w.heap.size w w') (k : Rw B w' rb bv sv bs w2 sv2 s2) : Rw B w rb bv sv bs w2 sv2 s2 :=
  ⟨k.rp, Fr.trans' ⟨hb.os, hb.tape, hb.output, hb.size, fun q hq _ => hb.block q hq⟩ k.fr (fun i hi => .inl hi), fun q hq => by
    rcases k.nw q hq with e | e
    · exact .inl e
    · have := hb.size; exact .inr (by omega)⟩
theorem Rw.below (k : Rw B w rb bv sv bs w' sv' s') (hb : Below w'.heap.size w' w2) : Rw B w rb bv sv bs w2 sv' s' :=
  ⟨k.rp.below hb, k.fr.trans ⟨hb.os, hb.tape, hb.output, hb.size, fun q hq _ => hb.block q hq⟩, k.nw⟩

/-- Fields are written. -/
theorem Rp.upd (h : Rp B w rb bv sv bs s) (hf : Fr (fun k => k = rb) w w') (hb : w'.heap[rb]? = some (s'.blk bv sv)) (ho : s'.out = s.out) (hp : s'.pos ≤ bs.length) : Rw B w rb bv sv bs w' sv s' :=
  ⟨⟨hb, by rw [ho]; exact hf.sl h.sl fun k hk e => h.sl.ne (c := #[bv, .int .i64 s.pos, .int .i64 s.tag, .int .i64 s.cells, sv, .int .i64 s.why, .int .i64 s.place]) h.blk (by decide) k hk e,
    h.inp.step (hf.below h.Ble fun k hk => by subst hk; exact h.hB), h.hB, h.own, hp⟩, hf.mono fun k hk => .inl hk, fun _ hk => .inl hk⟩
end

def Pr.fail (s : Pr) (e p : Nat) : Pr := if s.why = 0 then { s with why := e, place := p } else s

theorem Pr.cell {w : World} {rb : Nat} {bv sv : Value} {s : Pr} (h : w.heap[rb]? = some (s.blk bv sv)) :
    w.cell? ⟨rb, 0, none⟩ = some bv ∧ w.cell? ⟨rb, 1, none⟩ = some (.int .i64 s.pos) ∧ w.cell? ⟨rb, 2, none⟩ = some (.int .i64 s.tag) ∧ w.cell? ⟨rb, 3, none⟩ = some (.int .i64 s.cells) ∧
      w.cell? ⟨rb, 4, none⟩ = some sv ∧ w.cell? ⟨rb, 5, none⟩ = some (.int .i64 s.why) ∧ w.cell? ⟨rb, 6, none⟩ = some (.int .i64 s.place) :=
  ⟨blk_cell h 0, blk_cell h 1, blk_cell h 2, blk_cell h 3, blk_cell h 4, blk_cell h 5, blk_cell h 6⟩

set_option maxRecDepth 100000 in
theorem fail_any (B rb : Nat) (bv sv : Value) (bs : List UInt8) (s : Pr) (e p : Nat) (w : World) (h : Rp B w rb bv sv bs s) :
    Calls Tryd.prog 53 #[.pointer (some ⟨rb, 0, none⟩), .int .i64 e, .int .i64 p] w fun r w' => r = .returned (.tuple #[]) ∧ Rw B w rb bv sv bs w' sv (s.fail e p) := by
  obtain ⟨c0, c1, c2, c3, c4, c5, c6⟩ := Pr.cell h.blk
  have f5 := blk_free h.blk 5
  have f6 := blk_free h.blk 6
  have H := Lib.hid h
  obtain ⟨y, hy⟩ : ∃ y, s.why = y := ⟨_, rfl⟩
  rw [hy] at c5
  by_cases hs : y = 0
  · subst hs
    have HF : Hid (s.fail e p = { s with why := e, place := p }) := Lib.hid (by unfold Pr.fail; rw [if_pos hy])
    clear hy h c0 c1 c2 c3 c4
    go_enter Tryd.func53, Tryd.ntmps53
    go_wp2_with fail
    go_end0
    refine ⟨rfl, ?_⟩
    rw [HF.out]
    exact H.out.upd (((Fr.refl (fun k => k = rb) w).setCell (p := ⟨rb, 5, none⟩) (.inl rfl) _).setCell (p := ⟨rb, 6, none⟩) (.inl rfl) _) (by rw [blk_set (blk_set H.out.blk 5 _) 6 _]; rfl) rfl H.out.le
  · have HF : Hid (s.fail e p = s) := Lib.hid (by unfold Pr.fail; rw [if_neg (by omega)])
    have q : ((y : Int) == 0) = false := by simp; omega
    clear hy h c0 c1 c2 c3 c4 hs
    go_enter Tryd.func53, Tryd.ntmps53
    go_wp2_with fail
    go_end0
    refine ⟨rfl, ?_⟩
    rw [HF.out]
    exact Rw.refl H.out

def rest (bs : List UInt8) (k n : Nat) : List UInt8 := (bs.drop k).take n

theorem take_err (B rb : Nat) (bv sv : Value) (bs : List UInt8) (s : Pr) (n : Int) (w : World) (h : Rp B w rb bv sv bs s) (hs : s.why ≠ 0) :
    Calls Tryd.prog 52 #[.pointer (some ⟨rb, 0, none⟩), .int .i64 n] w fun r w' => r = .returned (.slice none 0 0) ∧ Rw B w rb bv sv bs w' sv s := by
  obtain ⟨c0, c1, c2, c3, c4, c5, c6⟩ := Pr.cell h.blk
  have H := Lib.hid h
  obtain ⟨y, hy⟩ : ∃ y, s.why = y := ⟨_, rfl⟩
  rw [hy] at c5 hs
  have q : ((y : Int) == 0) = false := by simp; omega
  have q' : ((y : Int) != 0) = true := by simp; omega
  clear hy h c0 c1 c2 c3 c4 hs
  go_enter Tryd.func52, Tryd.ntmps52
  go_wp2_with fail
  go_ret
  exact ⟨rfl, Rw.refl H.out⟩

theorem rest_len {bs : List UInt8} {p n : Nat} (h : p + n ≤ bs.length) : (rest bs p n).length = n := by unfold rest; rw [List.length_take, List.length_drop]; omega

theorem rd_part {w : World} {g off cap L : Nat} {bs : List UInt8} (h : Rd w 1 (.slice (some ⟨g, off, none⟩) L cap) L (byteCells bs)) (p n : Nat) (hp : p + n ≤ L) :
    Rd w 1 (.slice (if cap = p then some ⟨g, off, none⟩ else some ⟨g, off + p, none⟩) n (cap - p)) n (byteCells (rest bs p n)) := by
  have h1 := h.drop (k := p) (by omega)
  rw [Nat.mul_one] at h1
  have h2 := h1.take (k := n) (by omega)
  rw [Nat.mul_one] at h2
  have : ((byteCells bs).drop p).take n = byteCells (rest bs p n) := by unfold byteCells rest; rw [← List.map_drop, ← List.map_take]
  rwa [this] at h2

/-- A piece of what is read. -/
theorem RdU.part {B : Nat} {w : World} {g off cap L : Nat} {bs : List UInt8} (h : RdU B w 1 (.slice (some ⟨g, off, none⟩) L cap) L (byteCells bs)) (p n : Nat) (hp : p + n ≤ L) {a : Option Addr} (ha : (if cap = p then some ⟨g, off, none⟩ else some ⟨g, off + p, none⟩) = a) :
    RdU B w 1 (.slice a n (cap - p)) n (byteCells (rest bs p n)) := fun W hW => ha ▸ rd_part (h W hW) p n hp

set_option maxHeartbeats 800000 in
set_option maxRecDepth 100000 in
theorem take_ok (B rb : Nat) (bv sv : Value) (bs : List UInt8) (s : Pr) (n : Nat) (hlen : bs.length ≤ 1048576) (hpos : 1 ≤ bs.length) (w : World) (h : Rp B w rb bv sv bs s) (hs : s.why = 0) (hn : s.pos + n ≤ bs.length) :
    Calls Tryd.prog 52 #[.pointer (some ⟨rb, 0, none⟩), .int .i64 n] w fun r w' => (∃ g off cap, r = .returned (.slice (some ⟨g, off, none⟩) n cap) ∧ RdU B w' 1 (.slice (some ⟨g, off, none⟩) n cap) n (byteCells (rest bs s.pos n))) ∧
      Rw B w rb bv sv bs w' sv { s with pos := s.pos + n } := by
  obtain ⟨c0, c1, c2, c3, c4, c5, c6⟩ := Pr.cell h.blk
  have H := Lib.hid h
  obtain ⟨g, off, cap, rfl, hc1, hc2, hc3⟩ := h.inp.now.at (by omega)
  clear hc3
  rw [hs] at c5
  obtain ⟨p, hp⟩ : ∃ p, s.pos = p := ⟨_, rfl⟩
  rw [hp] at c1 hn ⊢
  have f1 := blk_free h.blk 1
  obtain ⟨m, hm⟩ : ∃ m, p + n = m := ⟨_, rfl⟩
  have e1 : IntKind.i64.wrap ((p : Int) + (n : Int)) = (m : Int) := by rw [IntKind.wrap_i64]; omega
  have e0 : (p : Int) + (n : Int) = (m : Int) := by omega
  have e4 : IntKind.i64.wrap (m : Int) = (m : Int) := by rw [IntKind.wrap_i64]; omega
  obtain ⟨d, hd⟩ : ∃ d, bs.length - p = d := ⟨_, rfl⟩
  have e2 : IntKind.i64.wrap ((bs.length : Int) - (p : Int)) = (d : Int) := by rw [IntKind.wrap_i64]; omega
  have e3 : (bs.length : Int) - (p : Int) = (d : Int) := by omega
  have q1 : decide ((d : Int) < (n : Int)) = false := decide_eq_false (by omega)
  have q2 : decide (d < n) = false := decide_eq_false (by omega)
  have p0 : (0 : Int) ≤ (p : Int) := by omega
  have p1 : (p : Int) ≤ (m : Int) := by omega
  have p2 : (m : Int) ≤ (cap : Int) := by omega
  have HM := Lib.hid (⟨hm, hd, hn⟩ : p + n = m ∧ bs.length - p = d ∧ p + n ≤ bs.length)
  have HS := Lib.hid hs
  clear h hm hd hn hs hp hc1 hc2 c2 c3 c4 c6
  go_enter Tryd.func52, Tryd.ntmps52
  go_wp2_with fail
  go_quiet (fail)
  go_wp2_with fail
  go_quiet (fail)
  go_wp2_with fail
  all_goals
    have hmn : m - p = n := by have := HM.out; omega
    have hset : ∀ q, Rw B w rb (.slice (some ⟨g, off, none⟩) bs.length cap) sv bs ((w.drewN q).setCell ⟨rb, 1, none⟩ (.int .i64 m)) sv { s with pos := p + n } := fun q =>
      H.out.upd (((Fr.refl (fun k => k = rb) w).drewN q).setCell (p := ⟨rb, 1, none⟩) (.inl rfl) _) (by rw [blk_set (w := w.drewN q) (show (w.drewN q).heap[rb]? = _ from H.out.blk) 1 _, HM.out.1]; rfl) rfl (by have := HM.out; show p + n ≤ _; omega)
    have HSET := Lib.hid hset
    have HMN := Lib.hid hmn
    clear hset hmn
    go_ret
  · subst h
    refine ⟨⟨g, off, 0, by rw [HMN.out]; rfl, ?_⟩, HSET.out _⟩
    have hq := fun q => (H.out.inp.step ((HSET.out q).bel H.out)).part cap n (by have := HM.out; omega) (if_pos rfl)
    simp only [Nat.sub_self] at hq
    exact hq _
  · exact ⟨⟨g, off + p, cap - p, by rw [HMN.out]; rfl, (H.out.inp.step ((HSET.out _).bel H.out)).part p n (by have := HM.out; omega) (if_neg h)⟩, HSET.out _⟩

set_option maxHeartbeats 800000 in
set_option maxRecDepth 100000 in
theorem take_short (B rb : Nat) (bv sv : Value) (bs : List UInt8) (s : Pr) (n : Nat) (hlen : bs.length ≤ 1048576) (hnn : n ≤ 1099511627776) (w : World) (h : Rp B w rb bv sv bs s) (hs : s.why = 0) (hn : bs.length < s.pos + n) :
    Calls Tryd.prog 52 #[.pointer (some ⟨rb, 0, none⟩), .int .i64 n] w fun r w' => r = .returned (.slice none 0 0) ∧ Rw B w rb bv sv bs w' sv (s.fail 62 bs.length) := by
  obtain ⟨c0, c1, c2, c3, c4, c5, c6⟩ := Pr.cell h.blk
  obtain ⟨ao, cap, rfl, hc1, hc2⟩ := h.inp.now.shape
  have hle := h.le
  rw [hs] at c5
  have HFA : Hid (∀ q, Calls Tryd.prog 53 #[.pointer (some ⟨rb, 0, none⟩), .int .i64 62, .int .i64 bs.length] (w.drewN q) fun r w' => r = .returned (.tuple #[]) ∧ Rw B w rb (.slice ao bs.length cap) sv bs w' sv (s.fail 62 bs.length)) := Lib.hid (fun q =>
    (fail_any B rb _ sv bs s 62 bs.length (w.drewN q) (h.below (bel_drewN (Below.refl _ _) q))).mono fun r w' hr => ⟨hr.1, Rw.behind (bel_drewN (Below.refl _ _) q) hr.2⟩)
  obtain ⟨p, hp⟩ : ∃ p, s.pos = p := ⟨_, rfl⟩
  rw [hp] at c1 hn hle
  obtain ⟨d, hd⟩ : ∃ d, bs.length - p = d := ⟨_, rfl⟩
  have e2 : IntKind.i64.wrap ((bs.length : Int) - (p : Int)) = (d : Int) := by rw [IntKind.wrap_i64]; omega
  have e3 : (bs.length : Int) - (p : Int) = (d : Int) := by omega
  have q1 : decide ((d : Int) < (n : Int)) = true := decide_eq_true (by omega)
  have q2 : decide (d < n) = true := decide_eq_true (by omega)
  clear h hd hn hs hp hc1 hc2 c2 c3 c4 c6 hle
  go_enter Tryd.func52, Tryd.ntmps52
  go_wp2_with fail
  go_quiet (fail)
  go_wp2_with fail
  refine (HFA.out _).mono ?_
  rintro e w1 ⟨rfl, h1⟩
  have H1 := Lib.hid h1
  clear h1
  go_wp2_with fail
  go_ret
  exact ⟨rfl, H1.out⟩

/-! ### Numbers -/
def beN (l : List UInt8) : Nat := l.foldl (fun x c => x * 256 + c.toNat) 0
theorem beN_snoc (l : List UInt8) (c : UInt8) : beN (l ++ [c]) = beN l * 256 + c.toNat := by unfold beN; rw [List.foldl_append]; rfl
theorem beN_aux : ∀ (l : List UInt8) (x : Nat), l.foldl (fun x c => x * 256 + c.toNat) x < (x + 1) * 256 ^ l.length
  | [], x => by simp
  | c :: l, x => by
    have h := beN_aux l (x * 256 + c.toNat)
    have hc := UInt8.toNat_lt c
    simp only [List.foldl_cons, List.length_cons, Nat.pow_succ]
    have h2 : (x * 256 + c.toNat + 1) * 256 ^ l.length ≤ (x + 1) * 256 * 256 ^ l.length := Nat.mul_le_mul_right _ (by omega)
    have h3 : (x + 1) * 256 * 256 ^ l.length = (x + 1) * (256 ^ l.length * 256) := by rw [Nat.mul_assoc, Nat.mul_comm 256]
    omega
theorem beN_lt (l : List UInt8) : beN l < 256 ^ l.length := by have := beN_aux l 0; simpa [beN] using this

theorem i64_or8 (x c : Nat) (hx : x < 4294967296) (hc : c < 256) : bits .or .i64 ((x : Int) * 256) (c : Int) = (x : Int) * 256 + c :=
  bits_join .i64 62 (by decide) wraps_i64 8 _ _ (by omega) (by omega) (by omega) (by omega) (by omega) (by omega)

set_option maxHeartbeats 800000 in
set_option maxRecDepth 100000 in
theorem number_none (B rb : Nat) (bv sv : Value) (bs : List UInt8) (s' : Pr) (n : Nat) (w : World)
    (h : Calls Tryd.prog 52 #[.pointer (some ⟨rb, 0, none⟩), .int .i64 n] w fun r w' => r = .returned (.slice none 0 0) ∧ Rw B w rb bv sv bs w' sv s') :
    Calls Tryd.prog 45 #[.pointer (some ⟨rb, 0, none⟩), .int .i64 n] w fun r w' => r = .returned (.int .i64 0) ∧ Rw B w rb bv sv bs w' sv s' := by
  have H := Lib.hid h
  clear h
  go_enter Tryd.func45, Tryd.ntmps45
  go_wp2_with fail
  refine (H.out).mono ?_
  rintro e w1 ⟨rfl, h1⟩
  have H1 := Lib.hid h1
  clear h1
  go_wp2_with fail
  go_loopg [5, 12] 0 (fun g s5 s12 wr => s5 = .int .i64 0 ∧ s12 = .int .i64 0 ∧ wr = w1)
  case atStart => exact ⟨rfl, rfl, rfl⟩
  case round =>
    obtain ⟨rfl, rfl, rfl⟩ := hrel
    go_wp2_with fail
    go_ret
    exact ⟨rfl, H1.out⟩

set_option maxHeartbeats 800000 in
set_option maxRecDepth 100000 in
theorem number_ok (B rb : Nat) (bv sv : Value) (bs : List UInt8) (s : Pr) (n : Nat) (hlen : bs.length ≤ 1048576) (hpos : 1 ≤ bs.length) (hn4 : n ≤ 4) (w : World) (h : Rp B w rb bv sv bs s) (hs : s.why = 0) (hn : s.pos + n ≤ bs.length) :
    Calls Tryd.prog 45 #[.pointer (some ⟨rb, 0, none⟩), .int .i64 n] w fun r w' => r = .returned (.int .i64 (beN (rest bs s.pos n))) ∧ Rw B w rb bv sv bs w' sv { s with pos := s.pos + n } := by
  have H := Lib.hid (take_ok B rb bv sv bs s n hlen hpos w h hs hn)
  have hrl := rest_len hn
  obtain ⟨R, hR⟩ : ∃ R, rest bs s.pos n = R := ⟨_, rfl⟩
  rw [hR] at H hrl ⊢
  have HRL := Lib.hid hrl
  clear h hs hR hrl hn
  go_enter Tryd.func45, Tryd.ntmps45
  go_wp2_with fail
  refine (H.out).mono ?_
  rintro e w1 ⟨⟨g, off, cap, rfl, hrd⟩, h1⟩
  have HRD := Lib.hid hrd.now
  have H1 := Lib.hid h1
  clear h1 hrd
  go_wp2_with fail
  go_loopg [5, 12] n (fun g s5 s12 wr => ∃ k : Nat, k + g = n ∧ s12 = .int .i64 k ∧ s5 = .int .i64 (beN (R.take k)) ∧ wr = w1)
  case atStart => exact ⟨0, by omega, rfl, by simp [beN], rfl⟩
  case round =>
    obtain ⟨k, hk, rfl, rfl, rfl⟩ := hrel
    cases gk with
    | zero =>
      obtain rfl : k = n := by omega
      have HT : Hid (R.take k = R) := Lib.hid (List.take_of_length_le (by rw [HRL.out]; omega))
      rw [HT.out]
      go_wp2_with fail
      go_ret
      exact ⟨rfl, H1.out⟩
    | succ g' =>
      have hkn : k < R.length := by have := HRL.out; omega
      obtain ⟨c, hc⟩ : ∃ c, R[k]? = some c := ⟨R[k], List.getElem?_eq_getElem _⟩
      obtain ⟨g0, off0, cap0, hv, hq1, hq2, hq3⟩ := HRD.out.at (by omega)
      simp at hv
      obtain ⟨⟨rfl, rfl⟩, rfl⟩ := hv
      have hck := hq3 k (by omega)
      have hbk : (byteCells R)[k]? = some (.int .u8 c.toNat) := by unfold byteCells; rw [List.getElem?_map, hc]; rfl
      rw [hbk] at hck
      clear hq1 hq2 hq3 hbk
      have hb := beN_lt (R.take k)
      have hb2 : (256 : Nat) ^ (R.take k).length ≤ 256 ^ 3 := Nat.pow_le_pow_right (by omega) (by rw [List.length_take]; omega)
      obtain ⟨x, hx⟩ : ∃ x, beN (R.take k) = x := ⟨_, rfl⟩
      rw [hx] at hb ⊢
      have hx3 : x < 16777216 := by omega
      have hcb := UInt8.toNat_lt c
      obtain ⟨y, hy⟩ : ∃ y, c.toNat = y := ⟨_, rfl⟩
      rw [hy] at hck hcb
      have hor := i64_or8 x y (by omega) hcb
      have HN : Hid (beN (R.take (k + 1)) = x * 256 + y) := Lib.hid (by
        rw [List.take_add_one, hc, Option.toList_some, beN_snoc, hx, hy])
      clear hb hb2 hx hy hc
      have hkz : (k : Int) < (n : Int) := by omega
      go_wp2_with fail
      go_roundg g'
      case measure => omega
      case rel => exact ⟨k + 1, by omega, by go_num, by rw [HN.out]; first | rfl | (congr 1; omega), rfl⟩
end Go.Proofs.YtkhjdcnlpablkaaDoor
