/- Several texts in one: Room, Ddp, Dlf, Dtx, Dbig, Dpid, Dref, Dsml, Dkid, Dtup, Dlst, Dtrm, Ddec, Spo, Lent, Rlaw. -/
import Derived.Test.YtkhjdcnlpablkaaDoorBase
import Derived.Test.YtkhjdcnlpablkaaDoorDec
import Derived.Test.YtkhjdcnlpablkaaDoorRdq
import Derived.Test.YtkhjdcnlpablkaaDoorMade
import Derived.Test.YtkhjdcnlpablkaaDoorBig
import Derived.Test.YtkhjdcnlpablkaaDoorChars
import Derived.Test.YtkhjdcnlpablkaaDoorRef
import Derived.Test.YtkhjdcnlpablkaaDoorDecode
import Derived.Test.YtkhjdcnlpablkaaDoorSam
import Derived.Test.YtkhjdcnlpablkaaDoorSam2
import Derived.Test.YtkhjdcnlpablkaaDoorStk
import Derived.Test.YtkhjdcnlpablkaaDoorAw
import Derived.Test.YtkhjdcnlpablkaaDoorNz
/-! APPEND where what was there fills the reach. -/
namespace Go.Proofs.YtkhjdcnlpablkaaDoor
open Go.RowKit

/-- APPEND, whatever the slice; what growing asks for is a premise. -/
theorem run_append_room {P : Program} (w : World) (t ty e : TypeId) (i : TypeInfo) (z : Value) (size bytes : Nat) (ht : P.underlying t = some (.slice e)) (hi : P.info? e = some i) (hz : i.zero = some z)
    (hsize : i.size = size) (hby : i.bytes = bytes) (hzs : z.cells.size = size) (hsz : 0 < size)
    (v : Value) (n : Nat) (xs : List Value) (hs : Sl w e size v n xs)
    (a : Addr) (m c : Nat) (news : List Value) (hl : news.length = m * size) (hnews : ∀ j u, news[j]? = some u → w.cell? (a.add j) = some u) (h1 : ∀ u ∈ news, u.oneCell' = true)
    (h63 : n + m ≤ maxLen) (hnil : n = 0 → m * bytes ≤ 281474976710656) (hfit : ∀ old, n ≤ old → old < n + m → Builtin.nextslicecap (n + m) old * bytes ≤ 281474976710656) :
    ∃ v' w', (Builtin.append_ #[t, t] ty #[v, .slice (some a) m c]).run P w = .ok v' w' ∧ Sl w' e size v' (n + m) (xs ++ news) ∧ Fr (fun k => v.ownBlock = some k) w w' ∧
      (v'.ownBlock = v.ownBlock ∨ v'.ownBlock = some w.heap.size) := by
  subst hsize
  subst hby
  have hlen : (xs ++ news).length = (n + m) * i.size := by rw [List.length_append, hs.len, hl, Nat.add_mul]
  obtain ⟨ao, cap, rfl, h0, hnc, hcm, h3⟩ := hs
  have grown : ∀ (old : Nat), old < n + m →
      Sl (w.drew.alloc (.cells (xs.toArray ++ news.toArray ++ Builtin.zeroCells z.cells (grownCap w (n + m) old e - (n + m))) e)) e i.size (.slice (some ⟨w.heap.size, 0, none⟩) (n + m) (grownCap w (n + m) old e)) (n + m) (xs ++ news) := by
    intro old ho
    have hge := grownCap_ge w (n + m) old e
    have hcm : grownCap w (n + m) old e ≤ maxLen := grownCap_le_maxLen w (n + m) old e h63
    refine ⟨_, _, rfl, hlen, hge, hcm, .inr ⟨w.heap.size, 0, _, rfl, heap_alloc_new w.drew _, ?_, ?_⟩⟩
    · simp only [Array.size_append, List.size_toArray, size_zeroCells, hzs, h0, hl, ← Nat.add_mul, Nat.zero_add]
      apply Nat.mul_le_mul_right
      omega
    · simp only [Array.toList_append, List.append_assoc, List.drop_zero]
      rw [← List.append_assoc, ← hlen]
      exact List.take_left
  have frg : ∀ (o : Obj) (F : Nat → Prop), Fr F w (w.drew.alloc o) := fun o F => ((Fr.refl F w).drew).alloc o
  rcases h3 with ⟨rfl, rfl⟩ | ⟨g, off, cur, rfl, hg, hfit0, htake⟩
  · obtain rfl : n = 0 := by omega
    have hx : xs = [] := List.eq_nil_of_length_eq_zero (by simpa using h0)
    subst hx
    by_cases hm : m = 0
    · subst hm
      have hn : news = [] := List.eq_nil_of_length_eq_zero (by simpa using hl)
      subst hn
      refine ⟨.slice none 0 0, w, ?_, Sl.nil w e i.size, Fr.refl _ _, .inl rfl⟩
      simp [Builtin.append_, run_underlying ht, sizeOf, typeInfo, hi, Builtin.lenOf, Builtin.firstCells, loadCells, loadCellsFrom]
    · have hr := run_append_nil (P := P) w t ty e i z ht hi hz a m c news hl hnews (by omega) (by simp only [maxLen] at h63; omega) (hnil rfl)
      have hgr := grown 0 (by omega)
      simp only [Nat.zero_add, List.nil_append, Array.empty_append] at hgr ⊢
      exact ⟨_, _, hr, hgr, frg _ _, .inr rfl⟩
  · by_cases hroom : n + m ≤ cap
    · have hsp : (n + m) * i.size ≤ cap * i.size := Nat.mul_le_mul_right _ hroom
      rw [Nat.add_mul] at hsp
      have hf := run_firstCells_some (P := P) w i.size m a m c news hl hnews
      have hst := run_storeCells_at P g (off + n * i.size) e news 0 cur w hg (by simp only [Nat.add_zero]; omega) h1
      simp only [Nat.add_zero] at hst
      refine ⟨.slice (some ⟨g, off, none⟩) (n + m) cap, w.setRow g (cur.toList.take (off + n * i.size) ++ news ++ cur.toList.drop (off + n * i.size + news.length)).toArray, ?_, ⟨_, _, rfl, hlen, hroom, hcm, .inr ⟨g, off, _, rfl, setRow_heap w g cur _ e _ hg, ?_, ?_⟩⟩, ⟨rfl, rfl, rfl, by simp, fun k _ hk => setRow_other w g k _ (fun e => hk (by simp [Value.ownBlock, e]))⟩, .inl rfl⟩
      · simp [Builtin.append_, run_underlying ht, sizeOf, typeInfo, hi, Builtin.lenOf, hroom, hf, Addr.add_lit, hst]
      · simp only [List.size_toArray, List.length_append, List.length_take, List.length_drop, Array.length_toList]
        omega
      · simp only [List.append_assoc]
        rw [List.drop_append_of_le_length (by simp; omega)]
        have e1 : List.drop off (List.take (off + n * i.size) cur.toList) = xs := by
          rw [List.drop_take, show off + n * i.size - off = n * i.size by omega]; exact htake
        rw [e1, ← List.append_assoc, ← hlen]
        exact List.take_left
    · have holds : ∀ j u, xs[j]? = some u → w.cell? ((⟨g, off, none⟩ : Addr).add j) = some u := by
        intro j u hu
        have hj : j < n * i.size := by
          have := (List.getElem?_eq_some_iff.1 hu).1
          omega
        rw [Addr.add_lit, blk_cell hg, ← hu, ← htake, List.getElem?_take, if_pos hj, List.getElem?_drop]
        simp
      have hr := run_append_grow (P := P) w t ty e i z ht hi hz ⟨g, off, none⟩ n cap xs h0 holds a m c news hl hnews (by omega) (by simp only [maxLen] at h63; omega) (hfit cap (by omega) (by omega))
      exact ⟨_, _, hr, grown cap (by omega), frg _ _, .inr rfl⟩

/-- APPEND of one element to a slice that fills the reach. -/
theorem wpList_append_one {P : Program} {w : World} {ops : Array Oper} {rest : List Oper} {o : Oper} {a : Act} {Q : Exit → Act → World → Prop} (hgd : o.guard = none) (s x : Operand) (t : TypeId)
    (ho : o.op = .call { callee := .builtin .append, args := #[s, x], argTypes := #[t, t] })
    (e : TypeId) (i : TypeInfo) (z : Value) (size bytes : Nat) (ht : P.underlying t = some (.slice e)) (hi : P.info? e = some i) (hz : i.zero = some z)
    (hsize : i.size = size) (hby : i.bytes = bytes) (hzs : z.cells.size = size) (hsz : 0 < size)
    (v : Value) (n : Nat) (xs : List Value) (hs : a.eval s = v) (hown : Sl w e size v n xs)
    (ad : Addr) (c : Nat) (news : List Value) (hx : a.eval x = .slice (some ad) 1 c) (hl : news.length = 1 * size) (hnews : ∀ j u, news[j]? = some u → w.cell? (ad.add j) = some u) (h1 : ∀ u ∈ news, u.oneCell' = true)
    (h63 : n + 1 ≤ maxLen) (hbytes : n * bytes ≤ 140737488355328) (hb1 : bytes ≤ 1000)
    (h : ∀ v' w', Sl w' e size v' (n + 1) (xs ++ news) → Fr (fun k => v.ownBlock = some k) w w' → (v'.ownBlock = v.ownBlock ∨ v'.ownBlock = some w.heap.size) → wpList P ops Q rest (a.put o.dst v') w') : wpList P ops Q (o :: rest) a w := by
  refine wpList_plain hgd fun K hK => ?_
  obtain ⟨v', w', hr, h2, h3, h4⟩ := run_append_room (P := P) w t o.type e i z size bytes ht hi hz hsize hby hzs hsz v n xs hown ad 1 c news hl hnews h1 h63 (fun h => by omega) (fun old h1 h2 => by
    obtain rfl : old = n := by omega
    exact growslice_fits_succ hbytes (by omega))
  unfold Oper.wp execOp
  simp only [ho, resolve, invoke, builtin, Sem.run_bind, Sem.run_pure, Result.andThen_ok, List.map_toArray, List.map_cons, List.map_nil, hs, hx, hr]
  exact hK _ _ (h v' w' h2 h3 h4)
end Go.Proofs.YtkhjdcnlpablkaaDoor

/-! The document's reader: fail, take, number, count. -/
namespace Go.Proofs.YtkhjdcnlpablkaaDoor
open Go.RowKit
open Go.Lib (byteCells)

/-- The state of the document's reader. -/
structure Ds where
  pos : Nat
  cells : Nat
  out : List Ce
  why : Nat
  place : Nat
def Ds.rs (s : Ds) : Rs := ⟨s.pos, s.cells, s.out⟩

def Ds.blk (bv sv : Value) (s : Ds) : Obj := .cells #[bv, .int .i64 s.pos, sv, .int .i64 s.cells, .int .i64 s.why, .int .i64 s.place] 64 (0, 0)

structure Dp (B : Nat) (w : World) (rb : Nat) (bv sv : Value) (bs : List UInt8) (s : Ds) : Prop where
  blk : w.heap[rb]? = some (s.blk bv sv)
  sl : Sl w 60 3 sv s.out.length (cvs s.out)
  inp : RdU B w 1 bv bs.length (byteCells bs)
  hB : B ≤ rb
  own : ∀ k, sv.ownBlock = some k → B ≤ k
  le : s.pos ≤ bs.length

structure Dw (B : Nat) (w : World) (rb : Nat) (bv sv : Value) (bs : List UInt8) (w' : World) (sv' : Value) (s' : Ds) : Prop where
  rp : Dp B w' rb bv sv' bs s'
  fr : Fr (fun k => k = rb ∨ sv.ownBlock = some k) w w'
  nw : ∀ k, sv'.ownBlock = some k → sv.ownBlock = some k ∨ w.heap.size ≤ k

section
variable {B rb : Nat} {w w' w2 : World} {bv sv sv' sv2 : Value} {bs : List UInt8} {s s' s2 : Ds}

theorem Dp.lt (h : Dp B w rb bv sv bs s) : rb < w.heap.size := blk_lt h.blk
theorem Dp.Ble (h : Dp B w rb bv sv bs s) : B ≤ w.heap.size := by have := h.lt; have := h.hB; omega
theorem Dw.bel (h : Dp B w rb bv sv bs s) (k : Dw B w rb bv sv bs w' sv' s') : Below B w w' :=
  k.fr.below h.Ble fun q hq => by rcases hq with rfl | e; exact h.hB; exact h.own q e
theorem Dw.refl (h : Dp B w rb bv sv bs s) : Dw B w rb bv sv bs w sv s := ⟨h, Fr.refl _ _, fun _ hk => .inl hk⟩
theorem Dw.trans (h : Dw B w rb bv sv bs w' sv' s') (k : Dw B w' rb bv sv' bs w2 sv2 s2) : Dw B w rb bv sv bs w2 sv2 s2 :=
  ⟨k.rp, h.fr.trans' k.fr fun i hi => by
    rcases hi with rfl | e
    · exact .inl (.inl rfl)
    · rcases h.nw i e with e | e
      · exact .inl (.inr e)
      · exact .inr e, fun q hq => by
    rcases k.nw q hq with e | e
    · exact h.nw q e
    · have := h.fr.size; exact .inr (by omega)⟩

/-- Memory made behind it changes nothing. -/
theorem Dp.below (h : Dp B w rb bv sv bs s) (hb : Below w.heap.size w w') : Dp B w' rb bv sv bs s :=
  ⟨(hb.block rb h.lt).trans h.blk, h.sl.keep fun k hk => hb.block k (h.sl.lt k hk), h.inp.step (hb.mono h.Ble), h.hB, h.own, h.le⟩
theorem Dw.behind (hb : Below w.heap.size w w') (k : Dw B w' rb bv sv bs w2 sv2 s2) : Dw B w rb bv sv bs w2 sv2 s2 :=
  ⟨k.rp, Fr.trans' ⟨hb.os, hb.tape, hb.output, hb.size, fun q hq _ => hb.block q hq⟩ k.fr (fun i hi => .inl hi), fun q hq => by
    rcases k.nw q hq with e | e
    · exact .inl e
    · have := hb.size; exact .inr (by omega)⟩
theorem Dw.below (k : Dw B w rb bv sv bs w' sv' s') (hb : Below w'.heap.size w' w2) : Dw B w rb bv sv bs w2 sv' s' :=
  ⟨k.rp.below hb, k.fr.trans ⟨hb.os, hb.tape, hb.output, hb.size, fun q hq _ => hb.block q hq⟩, k.nw⟩

/-- Fields are written. -/
theorem Dp.upd (h : Dp B w rb bv sv bs s) (hf : Fr (fun k => k = rb) w w') (hb : w'.heap[rb]? = some (s'.blk bv sv)) (ho : s'.out = s.out) (hp : s'.pos ≤ bs.length) : Dw B w rb bv sv bs w' sv s' :=
  ⟨⟨hb, by rw [ho]; exact hf.sl h.sl fun k hk e => h.sl.ne (c := #[bv, .int .i64 s.pos, sv, .int .i64 s.cells, .int .i64 s.why, .int .i64 s.place]) h.blk (by decide) k hk e,
    h.inp.step (hf.below h.Ble fun k hk => by subst hk; exact h.hB), h.hB, h.own, hp⟩, hf.mono fun k hk => .inl hk, fun _ hk => .inl hk⟩
end

def Ds.fail (s : Ds) (e p : Nat) : Ds := if s.why = 0 then { s with why := e, place := p } else s
theorem Ds.fail_zero {s : Ds} (h : s.why = 0) (e p : Nat) : s.fail e p = { s with why := e, place := p } := by unfold Ds.fail; rw [if_pos h]
def Ds.count (s : Ds) (n at' : Nat) : Ds := if 1024 < s.cells + n then s.fail 7 at' else { s with cells := s.cells + n }

theorem Ds.cell {w : World} {rb : Nat} {bv sv : Value} {s : Ds} (h : w.heap[rb]? = some (s.blk bv sv)) :
    w.cell? ⟨rb, 0, none⟩ = some bv ∧ w.cell? ⟨rb, 1, none⟩ = some (.int .i64 s.pos) ∧ w.cell? ⟨rb, 2, none⟩ = some sv ∧ w.cell? ⟨rb, 3, none⟩ = some (.int .i64 s.cells) ∧
      w.cell? ⟨rb, 4, none⟩ = some (.int .i64 s.why) ∧ w.cell? ⟨rb, 5, none⟩ = some (.int .i64 s.place) :=
  ⟨blk_cell h 0, blk_cell h 1, blk_cell h 2, blk_cell h 3, blk_cell h 4, blk_cell h 5⟩

set_option maxRecDepth 100000 in
theorem dfail_any (B rb : Nat) (bv sv : Value) (bs : List UInt8) (s : Ds) (e p : Nat) (w : World) (h : Dp B w rb bv sv bs s) :
    Calls Tryd.prog 33 #[.pointer (some ⟨rb, 0, none⟩), .int .i64 e, .int .i64 p] w fun r w' => r = .returned (.tuple #[]) ∧ Dw B w rb bv sv bs w' sv (s.fail e p) := by
  obtain ⟨c0, c1, c2, c3, c4, c5⟩ := Ds.cell h.blk
  have f4 := blk_free h.blk 4
  have f5 := blk_free h.blk 5
  have H := Lib.hid h
  obtain ⟨y, hy⟩ : ∃ y, s.why = y := ⟨_, rfl⟩
  rw [hy] at c4
  by_cases hs : y = 0
  · subst hs
    have HF : Hid (s.fail e p = { s with why := e, place := p }) := Lib.hid (by unfold Ds.fail; rw [if_pos hy])
    clear hy h c0 c1 c2 c3
    go_enter Tryd.func33, Tryd.ntmps33
    go_wp2_with fail
    go_end0
    refine ⟨rfl, ?_⟩
    rw [HF.out]
    exact H.out.upd (((Fr.refl (fun k => k = rb) w).setCell (p := ⟨rb, 4, none⟩) (.inl rfl) _).setCell (p := ⟨rb, 5, none⟩) (.inl rfl) _) (by rw [blk_set (blk_set H.out.blk 4 _) 5 _]; rfl) rfl H.out.le
  · have HF : Hid (s.fail e p = s) := Lib.hid (by unfold Ds.fail; rw [if_neg (by omega)])
    have q : ((y : Int) == 0) = false := by simp; omega
    clear hy h c0 c1 c2 c3 hs
    go_enter Tryd.func33, Tryd.ntmps33
    go_wp2_with fail
    go_end0
    refine ⟨rfl, ?_⟩
    rw [HF.out]
    exact Dw.refl H.out

set_option maxHeartbeats 800000 in
set_option maxRecDepth 100000 in
theorem dtake_ok (B rb : Nat) (bv sv : Value) (bs : List UInt8) (s : Ds) (n : Nat) (hlen : bs.length ≤ 1048576) (hpos : 1 ≤ bs.length) (w : World) (h : Dp B w rb bv sv bs s) (hn : s.pos + n ≤ bs.length) :
    Calls Tryd.prog 43 #[.pointer (some ⟨rb, 0, none⟩), .int .i64 n] w fun r w' => (∃ g off cap, r = .returned (.tuple #[.slice (some ⟨g, off, none⟩) n cap, .bool true]) ∧ RdU B w' 1 (.slice (some ⟨g, off, none⟩) n cap) n (byteCells (rest bs s.pos n))) ∧
      Dw B w rb bv sv bs w' sv { s with pos := s.pos + n } := by
  obtain ⟨c0, c1, c2, c3, c4, c5⟩ := Ds.cell h.blk
  have H := Lib.hid h
  obtain ⟨g, off, cap, rfl, hc1, hc2, hc3⟩ := h.inp.now.at (by omega)
  clear hc3
  obtain ⟨p, hp⟩ : ∃ p, s.pos = p := ⟨_, rfl⟩
  rw [hp] at c1 hn ⊢
  have f1 := blk_free h.blk 1
  obtain ⟨m, hm⟩ : ∃ m, p + n = m := ⟨_, rfl⟩
  have e1 : IntKind.i64.wrap ((p : Int) + (n : Int)) = (m : Int) := by rw [IntKind.wrap_i64]; omega
  have e0 : (p : Int) + (n : Int) = (m : Int) := by omega
  have e4 : IntKind.i64.wrap (m : Int) = (m : Int) := by rw [IntKind.wrap_i64]; omega
  obtain ⟨d, hd⟩ : ∃ d, bs.length - p = d := ⟨_, rfl⟩
  have e2 : IntKind.i64.wrap ((bs.length : Int) - (p : Int)) = (d : Int) := by rw [IntKind.wrap_i64]; omega
  have e3 : (bs.length : Int) - (p : Int) = (d : Int) := by omega
  have q1 : decide ((d : Int) < (n : Int)) = false := decide_eq_false (by omega)
  have q2 : decide (d < n) = false := decide_eq_false (by omega)
  have p0 : (0 : Int) ≤ (p : Int) := by omega
  have p1 : (p : Int) ≤ (m : Int) := by omega
  have p2 : (m : Int) ≤ (cap : Int) := by omega
  have HM := Lib.hid (⟨hm, hd, hn⟩ : p + n = m ∧ bs.length - p = d ∧ p + n ≤ bs.length)
  clear h hm hd hn hp hc1 hc2 c2 c3 c4 c5
  go_enter Tryd.func43, Tryd.ntmps43
  go_wp2_with fail
  go_quiet (fail)
  go_wp2_with fail
  go_quiet (fail)
  go_wp2_with fail
  all_goals
    have hmn : m - p = n := by have := HM.out; omega
    have hset : ∀ q, Dw B w rb (.slice (some ⟨g, off, none⟩) bs.length cap) sv bs ((w.drewN q).setCell ⟨rb, 1, none⟩ (.int .i64 m)) sv { s with pos := p + n } := fun q =>
      H.out.upd (((Fr.refl (fun k => k = rb) w).drewN q).setCell (p := ⟨rb, 1, none⟩) (.inl rfl) _) (by rw [blk_set (w := w.drewN q) (show (w.drewN q).heap[rb]? = _ from H.out.blk) 1 _, HM.out.1]; rfl) rfl (by have := HM.out; show p + n ≤ _; omega)
    have HSET := Lib.hid hset
    have HMN := Lib.hid hmn
    clear hset hmn
    go_ret2
  · subst h
    refine ⟨⟨g, off, 0, by rw [HMN.out]; rfl, ?_⟩, HSET.out _⟩
    have hq := fun q => (H.out.inp.step ((HSET.out q).bel H.out)).part cap n (by have := HM.out; omega) (if_pos rfl)
    simp only [Nat.sub_self] at hq
    exact hq _
  · exact ⟨⟨g, off + p, cap - p, by rw [HMN.out]; rfl, (H.out.inp.step ((HSET.out _).bel H.out)).part p n (by have := HM.out; omega) (if_neg h)⟩, HSET.out _⟩

set_option maxHeartbeats 800000 in
set_option maxRecDepth 100000 in
theorem dtake_short (B rb : Nat) (bv sv : Value) (bs : List UInt8) (s : Ds) (n : Nat) (hlen : bs.length ≤ 1048576) (hnn : n ≤ 1099511627776) (w : World) (h : Dp B w rb bv sv bs s) (hn : bs.length < s.pos + n) :
    Calls Tryd.prog 43 #[.pointer (some ⟨rb, 0, none⟩), .int .i64 n] w fun r w' => r = .returned (.tuple #[.slice none 0 0, .bool false]) ∧ Dw B w rb bv sv bs w' sv (s.fail 62 bs.length) := by
  obtain ⟨c0, c1, c2, c3, c4, c5⟩ := Ds.cell h.blk
  obtain ⟨ao, cap, rfl, hc1, hc2⟩ := h.inp.now.shape
  have hle := h.le
  have HFA : Hid (∀ q, Calls Tryd.prog 33 #[.pointer (some ⟨rb, 0, none⟩), .int .i64 62, .int .i64 bs.length] (w.drewN q) fun r w' => r = .returned (.tuple #[]) ∧ Dw B w rb (.slice ao bs.length cap) sv bs w' sv (s.fail 62 bs.length)) := Lib.hid (fun q =>
    (dfail_any B rb _ sv bs s 62 bs.length (w.drewN q) (h.below (bel_drewN (Below.refl _ _) q))).mono fun r w' hr => ⟨hr.1, Dw.behind (bel_drewN (Below.refl _ _) q) hr.2⟩)
  obtain ⟨p, hp⟩ : ∃ p, s.pos = p := ⟨_, rfl⟩
  rw [hp] at c1 hn hle
  obtain ⟨d, hd⟩ : ∃ d, bs.length - p = d := ⟨_, rfl⟩
  have e2 : IntKind.i64.wrap ((bs.length : Int) - (p : Int)) = (d : Int) := by rw [IntKind.wrap_i64]; omega
  have e3 : (bs.length : Int) - (p : Int) = (d : Int) := by omega
  have q1 : decide ((d : Int) < (n : Int)) = true := decide_eq_true (by omega)
  have q2 : decide (d < n) = true := decide_eq_true (by omega)
  clear h hd hn hp hc1 hc2 c2 c3 c4 c5 hle
  go_enter Tryd.func43, Tryd.ntmps43
  go_wp2_with fail
  go_quiet (fail)
  go_wp2_with fail
  refine (HFA.out _).mono ?_
  rintro e w1 ⟨rfl, h1⟩
  have H1 := Lib.hid h1
  clear h1
  go_wp2_with fail
  go_ret2
  exact ⟨rfl, H1.out⟩

set_option maxHeartbeats 800000 in
set_option maxRecDepth 100000 in
theorem dcount_any (B rb : Nat) (bv sv : Value) (bs : List UInt8) (s : Ds) (n at' : Nat) (w : World) (h : Dp B w rb bv sv bs s) (hc : s.cells ≤ 1024) (hn : n ≤ 1099511627776) :
    Calls Tryd.prog 78 #[.pointer (some ⟨rb, 0, none⟩), .int .i64 n, .int .i64 at'] w fun r w' => r = .returned (.tuple #[]) ∧ Dw B w rb bv sv bs w' sv (s.count n at') := by
  obtain ⟨c0, c1, c2, c3, c4, c5⟩ := Ds.cell h.blk
  have f3 := blk_free h.blk 3
  have H := Lib.hid h
  have HFA := Lib.hid (dfail_any B rb bv sv bs s 7 at' w h)
  obtain ⟨m, hm⟩ : ∃ m, s.cells = m := ⟨_, rfl⟩
  rw [hm] at c3 hc
  obtain ⟨d, hd⟩ : ∃ d, m + n = d := ⟨_, rfl⟩
  have e2 : IntKind.i64.wrap ((m : Int) + (n : Int)) = (d : Int) := by rw [IntKind.wrap_i64]; omega
  have e3 : (m : Int) + (n : Int) = (d : Int) := by omega
  have e4 : IntKind.i64.wrap (d : Int) = (d : Int) := by rw [IntKind.wrap_i64]; omega
  have hdb : d ≤ 1099511628800 := by omega
  by_cases hb : 1024 < d
  · have HF : Hid (s.count n at' = s.fail 7 at') := Lib.hid (by unfold Ds.count; rw [if_pos (by omega)])
    have q1 : decide ((1024 : Int) < (d : Int)) = true := decide_eq_true (by omega)
    have q2 : decide (1024 < d) = true := decide_eq_true (by omega)
    clear h hm hd hc c0 c1 c2 c4 c5
    go_enter Tryd.func78, Tryd.ntmps78
    go_wp2_with fail
    refine (HFA.out).mono ?_
    rintro e w1 ⟨rfl, h1⟩
    have H1 := Lib.hid h1
    clear h1
    go_wp2_with fail
    refine bodyPost_ret (results_none rfl _ _ _) rfl ⟨rfl, ?_⟩
    rw [HF.out]
    exact H1.out
  · have HF : Hid (s.count n at' = { s with cells := d }) := Lib.hid (by unfold Ds.count; rw [if_neg (by omega), hm, hd])
    have q1 : decide ((1024 : Int) < (d : Int)) = false := decide_eq_false (by omega)
    have q2 : decide (1024 < d) = false := decide_eq_false (by omega)
    clear h hm hd hc c0 c1 c2 c4 c5
    go_enter Tryd.func78, Tryd.ntmps78
    go_wp2_with fail
    go_end0
    refine ⟨rfl, ?_⟩
    rw [HF.out]
    exact H.out.upd ((Fr.refl (fun k => k = rb) w).setCell (p := ⟨rb, 3, none⟩) (.inl rfl) _) (by rw [blk_set H.out.blk 3 _]; rfl) rfl H.out.le
end Go.Proofs.YtkhjdcnlpablkaaDoor

/-! The document's reader: a number; one more cell. Printed by genDlf.py. -/
namespace Go.Proofs.YtkhjdcnlpablkaaDoor
open Go.RowKit
open Go.Lib (byteCells)

/-- A fault has been told. -/
def DEr (B : Nat) (w : World) (rb : Nat) (bv sv : Value) (bs : List UInt8) (e p : Nat) (w' : World) : Prop := ∃ sv' s', Dw B w rb bv sv bs w' sv' s' ∧ s'.why = e ∧ s'.place = p ∧ e ≠ 0
section
variable {B rb : Nat} {w w' w2 : World} {bv sv sv' : Value} {bs : List UInt8} {s s' : Ds} {e p : Nat}
theorem DEr.fail (h : Dw B w rb bv sv bs w' sv' (s.fail e p)) (hs : s.why = 0) (he : e ≠ 0) : DEr B w rb bv sv bs e p w' := by
  rw [Ds.fail_zero hs] at h
  exact ⟨_, _, h, rfl, rfl, he⟩
theorem DEr.behind (h : Dw B w rb bv sv bs w' sv' s') (k : DEr B w' rb bv sv' bs e p w2) : DEr B w rb bv sv bs e p w2 := by
  obtain ⟨sv2, s2, h1, h2⟩ := k
  exact ⟨sv2, s2, h.trans h1, h2⟩
theorem DEr.back (hb : Below w.heap.size w w') (k : DEr B w' rb bv sv bs e p w2) : DEr B w rb bv sv bs e p w2 := by
  obtain ⟨sv2, s2, h1, h2⟩ := k
  exact ⟨sv2, s2, Dw.behind hb h1, h2⟩
theorem DEr.below (k : DEr B w rb bv sv bs e p w') (hb : Below w'.heap.size w' w2) : DEr B w rb bv sv bs e p w2 := by
  obtain ⟨sv2, s2, h1, h2⟩ := k
  exact ⟨sv2, s2, h1.below hb, h2⟩
end

set_option maxHeartbeats 800000 in
set_option maxRecDepth 100000 in
theorem dnum_ok (B rb : Nat) (bv sv : Value) (bs : List UInt8) (s : Ds) (n : Nat) (hlen : bs.length ≤ 1048576) (hpos : 1 ≤ bs.length) (hn4 : n ≤ 4) (w : World) (h : Dp B w rb bv sv bs s) (hn : s.pos + n ≤ bs.length) :
    Calls Tryd.prog 42 #[.pointer (some ⟨rb, 0, none⟩), .int .i64 n] w fun r w' => r = .returned (.tuple #[.int .i64 (beN (rest bs s.pos n)), .bool true]) ∧ Dw B w rb bv sv bs w' sv { s with pos := s.pos + n } := by
  have H := Lib.hid (dtake_ok B rb bv sv bs s n hlen hpos w h hn)
  have hrl := rest_len hn
  obtain ⟨R, hR⟩ : ∃ R, rest bs s.pos n = R := ⟨_, rfl⟩
  rw [hR] at H hrl ⊢
  have HRL := Lib.hid hrl
  clear h hR hrl hn
  go_enter Tryd.func42, Tryd.ntmps42
  go_wp2_with fail
  refine (H.out).mono ?_
  rintro e w1 ⟨⟨g, off, cap, rfl, hrd⟩, h1⟩
  have HRD := Lib.hid hrd.now
  have H1 := Lib.hid h1
  clear h1 hrd
  go_wp2_with fail
  go_loopg [8, 10, 19] n (fun g s8 _ s19 wr => ∃ k : Nat, k + g = n ∧ s19 = .int .i64 k ∧ s8 = .int .i64 (beN (R.take k)) ∧ wr = w1)
  case atStart => exact ⟨0, by omega, rfl, by simp [beN], rfl⟩
  case round =>
    obtain ⟨k, hk, rfl, rfl, rfl⟩ := hrel
    cases gk with
    | zero =>
      obtain rfl : k = n := by omega
      have HT : Hid (R.take k = R) := Lib.hid (List.take_of_length_le (by rw [HRL.out]; omega))
      rw [HT.out]
      go_wp2_with fail
      go_ret2
      exact ⟨rfl, H1.out⟩
    | succ g' =>
      have hkn : k < R.length := by have := HRL.out; omega
      obtain ⟨c, hc⟩ : ∃ c, R[k]? = some c := ⟨R[k], List.getElem?_eq_getElem _⟩
      obtain ⟨g0, off0, cap0, hv, hq1, hq2, hq3⟩ := HRD.out.at (by omega)
      simp at hv
      obtain ⟨⟨rfl, rfl⟩, rfl⟩ := hv
      have hck := hq3 k (by omega)
      have hbk : (byteCells R)[k]? = some (.int .u8 c.toNat) := by unfold byteCells; rw [List.getElem?_map, hc]; rfl
      rw [hbk] at hck
      clear hq1 hq2 hq3 hbk
      have hb := beN_lt (R.take k)
      have hb2 : (256 : Nat) ^ (R.take k).length ≤ 256 ^ 3 := Nat.pow_le_pow_right (by omega) (by rw [List.length_take]; omega)
      obtain ⟨x, hx⟩ : ∃ x, beN (R.take k) = x := ⟨_, rfl⟩
      rw [hx] at hb ⊢
      have hx3 : x < 16777216 := by omega
      have hcb := UInt8.toNat_lt c
      obtain ⟨y, hy⟩ : ∃ y, c.toNat = y := ⟨_, rfl⟩
      rw [hy] at hck hcb
      have HN : Hid (beN (R.take (k + 1)) = x * 256 + y) := Lib.hid (by
        rw [List.take_add_one, hc, Option.toList_some, beN_snoc, hx, hy])
      clear hb hb2 hx hy hc
      have hkz : (k : Int) < (n : Int) := by omega
      go_wp2_with fail
      go_roundg g'
      case measure => omega
      case rel => exact ⟨k + 1, by omega, by go_num, by rw [HN.out]; first | rfl | (congr 1; omega), rfl⟩

set_option maxHeartbeats 800000 in
set_option maxRecDepth 100000 in
theorem dnum_short (B rb : Nat) (bv sv : Value) (bs : List UInt8) (s : Ds) (n : Nat) (hlen : bs.length ≤ 1048576) (hn4 : n ≤ 4) (w : World) (h : Dp B w rb bv sv bs s) (hn : bs.length < s.pos + n) :
    Calls Tryd.prog 42 #[.pointer (some ⟨rb, 0, none⟩), .int .i64 n] w fun r w' => r = .returned (.tuple #[.int .i64 0, .bool false]) ∧ Dw B w rb bv sv bs w' sv (s.fail 62 bs.length) := by
  have H := Lib.hid (dtake_short B rb bv sv bs s n hlen (by omega) w h hn)
  clear h hn
  go_enter Tryd.func42, Tryd.ntmps42
  go_wp2_with fail
  refine (H.out).mono ?_
  rintro e w1 ⟨rfl, h1⟩
  have H1 := Lib.hid h1
  clear h1
  go_wp2_with fail
  go_loopg [8, 10, 19] 0 (fun g s8 _ s19 wr => s8 = .int .i64 0 ∧ s19 = .int .i64 0 ∧ wr = w1)
  case atStart => exact ⟨rfl, rfl, rfl⟩
  case round =>
    obtain ⟨rfl, rfl, rfl⟩ := hrel
    go_wp2_with fail
    go_ret2
    exact ⟨rfl, H1.out⟩

/-- A number, by what it is. -/
theorem dnum_any (B rb : Nat) (bv sv : Value) (bs : List UInt8) (s : Ds) (n : Nat) (hlen : bs.length ≤ 1048576) (hpos : 1 ≤ bs.length) (hn4 : n ≤ 4) (w : World) (h : Dp B w rb bv sv bs s) (hs : s.why = 0) :
    Calls Tryd.prog 42 #[.pointer (some ⟨rb, 0, none⟩), .int .i64 n] w fun r w' => ResP (numD bs s.pos n) (fun v => r = .returned (.tuple #[.int .i64 v, .bool true]) ∧ Dw B w rb bv sv bs w' sv { s with pos := s.pos + n })
      (fun e p => r = .returned (.tuple #[.int .i64 0, .bool false]) ∧ DEr B w rb bv sv bs e p w') := by
  by_cases hn : s.pos + n ≤ bs.length
  · have : numD bs s.pos n = .ok (beN (rest bs s.pos n)) := by unfold numD; rw [if_neg (by omega)]
    exact (dnum_ok B rb bv sv bs s n hlen hpos hn4 w h hn).mono fun r w' hr => ResP.okI this hr
  · have : numD bs s.pos n = .bad 62 bs.length := by unfold numD; rw [if_pos (by omega)]
    exact (dnum_short B rb bv sv bs s n hlen hn4 w h (by omega)).mono fun r w' hr => ResP.badI this ⟨hr.1, .fail hr.2 hs (by omega)⟩
/-- So many bytes, by what they are. -/
theorem dtake_any (B rb : Nat) (bv sv : Value) (bs : List UInt8) (s : Ds) (n : Nat) (hlen : bs.length ≤ 1048576) (hpos : 1 ≤ bs.length) (hnn : n ≤ 1099511627776) (w : World) (h : Dp B w rb bv sv bs s) (hs : s.why = 0) :
    Calls Tryd.prog 43 #[.pointer (some ⟨rb, 0, none⟩), .int .i64 n] w fun r w' => ResP (takeD bs s.pos n) (fun l => l.length = n ∧ (∃ g off cap, r = .returned (.tuple #[.slice (some ⟨g, off, none⟩) n cap, .bool true]) ∧ RdU B w' 1 (.slice (some ⟨g, off, none⟩) n cap) n (byteCells l)) ∧ Dw B w rb bv sv bs w' sv { s with pos := s.pos + n })
      (fun e p => r = .returned (.tuple #[.slice none 0 0, .bool false]) ∧ DEr B w rb bv sv bs e p w') := by
  by_cases hn : s.pos + n ≤ bs.length
  · have : takeD bs s.pos n = .ok (rest bs s.pos n) := by unfold takeD; rw [if_neg (by omega)]
    exact (dtake_ok B rb bv sv bs s n hlen hpos w h hn).mono fun r w' hr => ResP.okI this ⟨rest_len hn, hr⟩
  · have : takeD bs s.pos n = .bad 62 bs.length := by unfold takeD; rw [if_pos (by omega)]
    exact (dtake_short B rb bv sv bs s n hlen hnn w h (by omega)).mono fun r w' hr => ResP.badI this ⟨hr.1, .fail hr.2 hs (by omega)⟩

/-- A cell is put behind the others. -/
theorem Dp.app {B : Nat} {w w3 : World} {rb : Nat} {bv sv : Value} {bs : List UInt8} {s : Ds} (h : Dp B w rb bv sv bs s) {v' : Value} {c : List Ce} {n' : Nat} (hn : n' = (s.out ++ c).length) (hs : Sl w3 60 3 v' n' (cvs s.out ++ cvs c)) (hf : Fr (fun k => sv.ownBlock = some k) w w3)
    (hv : v'.ownBlock = sv.ownBlock ∨ ∀ k, v'.ownBlock = some k → w.heap.size ≤ k) : Dw B w rb bv sv bs (w3.setCell ⟨rb, 2, none⟩ v') v' { s with out := s.out ++ c } := by
  have hne := h.sl.ne (c := #[bv, .int .i64 s.pos, sv, .int .i64 s.cells, .int .i64 s.why, .int .i64 s.place]) h.blk (by decide)
  have hb3 : w3.heap[rb]? = some (s.blk bv sv) := hf.at h.blk (fun e => hne _ e rfl)
  have hv' : ∀ k, v'.ownBlock = some k → sv.ownBlock = some k ∨ w.heap.size ≤ k := fun k hk => by
    rcases hv with e | e
    · exact .inl (e ▸ hk)
    · exact .inr (e k hk)
  have hF := (hf.mono (G := fun k => k = rb ∨ sv.ownBlock = some k) fun k hk => .inr hk).setCell (p := ⟨rb, 2, none⟩) (.inl (.inl rfl)) v'
  refine ⟨⟨by rw [blk_set hb3 2 _]; rfl, ?_, h.inp.step (hF.below h.Ble fun k hk => ?_), h.hB, fun k hk => ?_, h.le⟩, hF, hv'⟩
  · rw [cvs_app, ← hn]
    exact hs.set_other v' (hs.ne (c := #[bv, .int .i64 s.pos, sv, .int .i64 s.cells, .int .i64 s.why, .int .i64 s.place]) hb3 (by decide))
  · rcases hk with rfl | e
    · exact h.hB
    · exact h.own k e
  · rcases hv' k hk with e | e
    · exact h.own k e
    · have := h.Ble; omega

set_option maxHeartbeats 3200000 in
set_option maxRecDepth 100000 in
theorem dleaf_any (B rb : Nat) (bv sv : Value) (bs : List UInt8) (s : Ds) (k n : Int) (str : ByteArray) (at' : Nat) (w : World) (h : Dp B w rb bv sv bs s) (hc : s.cells ≤ 1024) (hol : s.out.length ≤ 10000000) :
    Calls Tryd.prog 56 #[.pointer (some ⟨rb, 0, none⟩), .agg #[.int .i64 k, .int .i64 n, .string str], .int .i64 at'] w fun r w' => r = .returned (.tuple #[]) ∧
      ∃ sv', Dw B w rb bv sv bs w' sv' { s.count 1 at' with out := s.out ++ [⟨k, n, str⟩] } := by
  obtain ⟨i0, hinf, hz0, hz1, hz2⟩ := info_parts Tryd.info60
  obtain ⟨n0, hn0⟩ : ∃ n0, s.out.length = n0 := ⟨_, rfl⟩
  have hsl0 := h.sl
  rw [hn0] at hsl0 hol
  obtain ⟨ao, cap, rfl, hcap, hmax⟩ := hsl0.shape
  unfold maxLen at hmax
  clear hsl0
  have hA := h.below (bel_box w (.cells #[.int .i64 k, .int .i64 n, .string str] 60))
  have hbel := bel_box w (.cells #[.int .i64 k, .int .i64 n, .string str] 60)
  have hlt := h.lt
  have hbox := heap_alloc_new w (.cells #[.int .i64 k, .int .i64 n, .string str] 60)
  have hbn : ∀ q, (Value.slice ao n0 cap).ownBlock = some q → q < w.heap.size := fun q hq => h.sl.lt q hq
  have hso : (s.count 1 at').out = s.out := by unfold Ds.count Ds.fail; split <;> (try split) <;> rfl
  have HC := Lib.hid (dcount_any B rb bv (.slice ao n0 cap) bs s 1 at' _ hA hc (by omega))
  obtain ⟨s1, hs1⟩ : ∃ s1, s.count 1 at' = s1 := ⟨_, rfl⟩
  rw [hs1] at HC hso ⊢
  have HN0 : Hid (s1.out.length = n0) := Lib.hid (by rw [hso, hn0])
  rw [← hso]
  have HBEL := Lib.hid hbel
  have HBOX := Lib.hid hbox
  clear h hA hs1 hn0 hso hbel hbox hc
  go_enter Tryd.func56, Tryd.ntmps56
  go_wp2_with fail
  refine (HC.out).mono ?_
  rintro r w1 ⟨rfl, h1⟩
  have hbx : w1.heap[w.heap.size]? = some (.cells #[.int .i64 k, .int .i64 n, .string str] 60) := h1.fr.at HBOX.out (fun e => by
    rcases e with e | e
    · omega
    · exact absurd (hbn _ e) (Nat.lt_irrefl _))
  have hU : Dw B w rb bv (.slice ao n0 cap) bs w1 (.slice ao n0 cap) s1 := h1.behind HBEL.out
  have HU := Lib.hid hU
  have HBX := Lib.hid hbx
  clear h1 hU hbx HBOX HBEL HC
  go_wp2_with fail
  have hU := HU.out
  have hbx := HBX.out
  have hbl : w.heap.size < w1.heap.size := blk_lt hbx
  have b0 := blk_cell hbx 0
  have b1 := blk_cell hbx 1
  have b2 := blk_cell hbx 2
  simp at b0 b1 b2
  refine wp_region_ord (Ord.take 0 (.take 1 (.take 2 (.take 3 (.take 5 (.fork 4 6 (.alone 6 (.alone 7 (.take 8 (.take 9 (.alone 10 .done))))) (.alone 4 (.alone 7 (.take 8 (.take 9 (.alone 10 .done)))))))))))
    (fun W => W.cell? ⟨w.heap.size, 0, none⟩ = some (.int .i64 k) ∧ W.cell? ⟨w.heap.size, 1, none⟩ = some (.int .i64 n) ∧ W.cell? ⟨w.heap.size, 2, none⟩ = some (.string str)) (by kernel_rfl) (by kernel_rfl) (by kernel_rfl) (fun c a d v w h => by cases d <;> exact h) ⟨b0, b1, b2⟩ ?_
  have HBX2 := Lib.hid (show w1.drew.heap[w.heap.size]? = some (.cells #[.int .i64 k, .int .i64 n, .string str] 60) from hbx)
  clear hU hbx b0 b1 b2
  have hbd := HBX2.out
  have hU : Dw B w rb bv (.slice ao n0 cap) bs w1.drew (.slice ao n0 cap) s1 := HU.out.below ((Below.refl _ _).drew)
  have hbl2 : w.heap.size < w1.drew.heap.size := hbl
  clear HU hbl HBX2 HBX
  generalize w1.drew = w2 at hU hbl2 hbd ⊢
  have hT : w2.cell? ⟨w.heap.size, 0, none⟩ = some (.int .i64 k) ∧ w2.cell? ⟨w.heap.size, 1, none⟩ = some (.int .i64 n) ∧ w2.cell? ⟨w.heap.size, 2, none⟩ = some (.string str) := by
    have b0 := blk_cell hbd 0
    have b1 := blk_cell hbd 1
    have b2 := blk_cell hbd 2
    simp at b0 b1 b2
    exact ⟨b0, b1, b2⟩
  have hba : (w2.alloc (.cells #[.int .i64 k, .int .i64 n, .string str] 60)).heap[w.heap.size]? = some (.cells #[.int .i64 k, .int .i64 n, .string str] 60) := by
    rw [(bel_box w2 (.cells #[.int .i64 k, .int .i64 n, .string str] 60)).block _ hbl2]; exact hbd
  have hT' : (w2.alloc (.cells #[.int .i64 k, .int .i64 n, .string str] 60)).cell? ⟨w.heap.size, 0, none⟩ = some (.int .i64 k) ∧ (w2.alloc (.cells #[.int .i64 k, .int .i64 n, .string str] 60)).cell? ⟨w.heap.size, 1, none⟩ = some (.int .i64 n) ∧ (w2.alloc (.cells #[.int .i64 k, .int .i64 n, .string str] 60)).cell? ⟨w.heap.size, 2, none⟩ = some (.string str) := by
    have b0 := blk_cell hba 0
    have b1 := blk_cell hba 1
    have b2 := blk_cell hba 2
    simp at b0 b1 b2
    exact ⟨b0, b1, b2⟩
  have HT := Lib.hid hT
  have HT' := Lib.hid hT'
  have HBA := Lib.hid hba
  clear hT hT' hba hbd
  have c4 := (Ds.cell hU.rp.blk).2.2.1
  have hA2 : Dw B w rb bv (.slice ao n0 cap) bs (w2.alloc (.cells #[.int .i64 k, .int .i64 n, .string str] 60)) (.slice ao n0 cap) s1 := hU.below (bel_box _ _)
  have c4' := (Ds.cell hA2.rp.blk).2.2.1
  have hsl := hA2.rp.sl
  rw [HN0.out] at hsl
  have HA2 := Lib.hid hA2
  have HSL := Lib.hid hsl
  clear hU hA2 hsl
  refine ord_take (o := ⟨some 9, _, _, _, _, none⟩) _ rfl (by rfl) (fun W hW => by (go_simp; with_reducible rfl)) ?_
  simp only [Act.put, List.setIfInBounds_toArray, List.set_cons_zero, List.set_cons_succ]
  refine ord_take (o := ⟨some 10, _, _, _, _, none⟩) _ rfl (by rfl) (fun W hW => by (go_simp; with_reducible rfl)) ?_
  simp only [Act.put, List.setIfInBounds_toArray, List.set_cons_zero, List.set_cons_succ]
  refine ord_take (o := ⟨some 11, _, _, _, _, none⟩) _ rfl (by rfl) (fun W hW => by (go_simp; with_reducible rfl)) ?_
  simp only [Act.put, List.setIfInBounds_toArray, List.set_cons_zero, List.set_cons_succ]
  refine ord_take (o := ⟨some 12, _, _, _, _, none⟩) _ rfl (by rfl) (fun W hW => by (go_simp; with_reducible rfl)) ?_
  simp only [Act.put, List.setIfInBounds_toArray, List.set_cons_zero, List.set_cons_succ]
  refine ord_take (o := ⟨some 14, _, _, _, _, none⟩) _ rfl (by rfl) (fun W hW => by (obtain ⟨e1, e2, e3⟩ := hW; go_simp; with_reducible rfl)) ?_
  simp only [Act.put, List.setIfInBounds_toArray, List.set_cons_zero, List.set_cons_succ]
  refine ord_fork (oi := ⟨some 13, _, _, _, _, none⟩) (oj := ⟨some 15, _, _, _, _, none⟩) rfl rfl (by rfl) (by rfl) (fun K hK => ?_) (fun K hK => ?_)
  · go_simp
    refine hK _ _ HT.out ?_
    clear hK K
    refine ord_alone (o := ⟨some 15, _, _, _, _, none⟩) rfl (by rfl) (fun K hK => ?_)
    go_simp
    refine hK _ _ HT'.out ?_
    clear hK K
    refine ord_alone (o := ⟨some 16, _, _, _, _, none⟩) rfl (by rfl) (fun K hK => ?_)
    refine wp_append_sl (.tmp 13) (.tmp 15) 24 rfl 60 i0 (.agg #[.int .i64 0, .int .i64 0, .string ByteArray.empty]) 3 32 Tryd.underlying24 hinf hz0 hz1 hz2 rfl (by decide) (.slice ao n0 cap) n0 (cvs s1.out) rfl HSL.out ⟨w2.heap.size, 0, none⟩ 1 1 (cv ⟨k, n, str⟩) rfl rfl (cells_new3 w2 ⟨k, n, str⟩) (cv_one ⟨k, n, str⟩) (by unfold maxLen; omega) (by omega) ?_
    intro v' w3 hs3 hf3 hv3
    obtain ⟨ao', cap', rfl, _, _⟩ := hs3.shape
    rw [← cvs_one] at hs3
    have hq := HA2.out.rp.app (c := [⟨k, n, str⟩]) (n' := n0 + 1) (by rw [List.length_append, HN0.out]; rfl) hs3 hf3 (hv3.imp id (fun e k hk => by rw [e] at hk; cases hk; exact Nat.le_refl _))
    have hne : w.heap.size ≠ rb := by omega
    have hb3 : w3.heap[w.heap.size]? = some (.cells #[.int .i64 k, .int .i64 n, .string str] 60) := hf3.at HBA.out (fun e => absurd (hbn _ e) (Nat.lt_irrefl _))
    have hb4 : (w3.setCell ⟨rb, 2, none⟩ (.slice ao' (n0 + 1) cap')).heap[w.heap.size]? = some (.cells #[.int .i64 k, .int .i64 n, .string str] 60) := (Below.heap_setCell _ _ _ _ hne).trans hb3
    have g0 : w3.cell? ⟨w.heap.size, 0, none⟩ = some (.int .i64 k) := blk_cell hb3 0
    have g1 : w3.cell? ⟨w.heap.size, 1, none⟩ = some (.int .i64 n) := blk_cell hb3 1
    have g2 : w3.cell? ⟨w.heap.size, 2, none⟩ = some (.string str) := blk_cell hb3 2
    have e0 : (w3.setCell ⟨rb, 2, none⟩ (.slice ao' (n0 + 1) cap')).cell? ⟨w.heap.size, 0, none⟩ = some (.int .i64 k) := blk_cell hb4 0
    have e1' : (w3.setCell ⟨rb, 2, none⟩ (.slice ao' (n0 + 1) cap')).cell? ⟨w.heap.size, 1, none⟩ = some (.int .i64 n) := blk_cell hb4 1
    have e2' : (w3.setCell ⟨rb, 2, none⟩ (.slice ao' (n0 + 1) cap')).cell? ⟨w.heap.size, 2, none⟩ = some (.string str) := blk_cell hb4 2
    have HE := Lib.hid (⟨e0, e1', e2'⟩ : _ ∧ _ ∧ _)
    have hrb : w3.heap[rb]? = some (Ds.blk bv (.slice ao n0 cap) s1) := hf3.at HA2.out.rp.blk (fun e => (HSL.out.ne (c := #[bv, .int .i64 s1.pos, .slice ao n0 cap, .int .i64 s1.cells, .int .i64 s1.why, .int .i64 s1.place]) HA2.out.rp.blk (by decide)) _ e rfl)
    have f4 := blk_free hrb 2
    have c43 := (Ds.cell hrb).2.2.1
    have HQ := Lib.hid hq
    clear hs3 hf3 hv3 hq hb3 hb4 hrb e0 e1' e2'
    refine hK _ _ ⟨g0, g1, g2⟩ ?_
    clear hK K g0 g1 g2 c4 c4'
    simp only [Act.put, List.setIfInBounds_toArray, List.set_cons_zero, List.set_cons_succ]
    refine ord_take (o := ⟨some 17, _, _, _, _, none⟩) _ rfl (by rfl) (fun W hW => by (go_simp; with_reducible rfl)) ?_
    simp only [Act.put, List.setIfInBounds_toArray, List.set_cons_zero, List.set_cons_succ]
    refine ord_take (o := ⟨some 18, _, _, _, _, none⟩) _ rfl (by rfl) (fun W hW => by (go_simp; with_reducible rfl)) ?_
    simp only [Act.put, List.setIfInBounds_toArray, List.set_cons_zero, List.set_cons_succ]
    refine ord_alone (o := ⟨none, _, _, _, _, none⟩) rfl (by rfl) (fun K hK => ?_)
    go_simp
    refine hK _ _ HE.out ?_
    clear hK K
    refine ord_done ?_
    go_wp2_with fail
    go_end0
    exact ⟨rfl, _, HA2.out.trans HQ.out⟩
  · go_simp
    refine hK _ _ HT'.out ?_
    clear hK K
    refine ord_alone (o := ⟨some 13, _, _, _, _, none⟩) rfl (by rfl) (fun K hK => ?_)
    go_simp
    refine hK _ _ HT'.out ?_
    clear hK K
    refine ord_alone (o := ⟨some 16, _, _, _, _, none⟩) rfl (by rfl) (fun K hK => ?_)
    refine wp_append_sl (.tmp 13) (.tmp 15) 24 rfl 60 i0 (.agg #[.int .i64 0, .int .i64 0, .string ByteArray.empty]) 3 32 Tryd.underlying24 hinf hz0 hz1 hz2 rfl (by decide) (.slice ao n0 cap) n0 (cvs s1.out) rfl HSL.out ⟨w2.heap.size, 0, none⟩ 1 1 (cv ⟨k, n, str⟩) rfl rfl (cells_new3 w2 ⟨k, n, str⟩) (cv_one ⟨k, n, str⟩) (by unfold maxLen; omega) (by omega) ?_
    intro v' w3 hs3 hf3 hv3
    obtain ⟨ao', cap', rfl, _, _⟩ := hs3.shape
    rw [← cvs_one] at hs3
    have hq := HA2.out.rp.app (c := [⟨k, n, str⟩]) (n' := n0 + 1) (by rw [List.length_append, HN0.out]; rfl) hs3 hf3 (hv3.imp id (fun e k hk => by rw [e] at hk; cases hk; exact Nat.le_refl _))
    have hne : w.heap.size ≠ rb := by omega
    have hb3 : w3.heap[w.heap.size]? = some (.cells #[.int .i64 k, .int .i64 n, .string str] 60) := hf3.at HBA.out (fun e => absurd (hbn _ e) (Nat.lt_irrefl _))
    have hb4 : (w3.setCell ⟨rb, 2, none⟩ (.slice ao' (n0 + 1) cap')).heap[w.heap.size]? = some (.cells #[.int .i64 k, .int .i64 n, .string str] 60) := (Below.heap_setCell _ _ _ _ hne).trans hb3
    have g0 : w3.cell? ⟨w.heap.size, 0, none⟩ = some (.int .i64 k) := blk_cell hb3 0
    have g1 : w3.cell? ⟨w.heap.size, 1, none⟩ = some (.int .i64 n) := blk_cell hb3 1
    have g2 : w3.cell? ⟨w.heap.size, 2, none⟩ = some (.string str) := blk_cell hb3 2
    have e0 : (w3.setCell ⟨rb, 2, none⟩ (.slice ao' (n0 + 1) cap')).cell? ⟨w.heap.size, 0, none⟩ = some (.int .i64 k) := blk_cell hb4 0
    have e1' : (w3.setCell ⟨rb, 2, none⟩ (.slice ao' (n0 + 1) cap')).cell? ⟨w.heap.size, 1, none⟩ = some (.int .i64 n) := blk_cell hb4 1
    have e2' : (w3.setCell ⟨rb, 2, none⟩ (.slice ao' (n0 + 1) cap')).cell? ⟨w.heap.size, 2, none⟩ = some (.string str) := blk_cell hb4 2
    have HE := Lib.hid (⟨e0, e1', e2'⟩ : _ ∧ _ ∧ _)
    have hrb : w3.heap[rb]? = some (Ds.blk bv (.slice ao n0 cap) s1) := hf3.at HA2.out.rp.blk (fun e => (HSL.out.ne (c := #[bv, .int .i64 s1.pos, .slice ao n0 cap, .int .i64 s1.cells, .int .i64 s1.why, .int .i64 s1.place]) HA2.out.rp.blk (by decide)) _ e rfl)
    have f4 := blk_free hrb 2
    have c43 := (Ds.cell hrb).2.2.1
    have HQ := Lib.hid hq
    clear hs3 hf3 hv3 hq hb3 hb4 hrb e0 e1' e2'
    refine hK _ _ ⟨g0, g1, g2⟩ ?_
    clear hK K g0 g1 g2 c4 c4'
    simp only [Act.put, List.setIfInBounds_toArray, List.set_cons_zero, List.set_cons_succ]
    refine ord_take (o := ⟨some 17, _, _, _, _, none⟩) _ rfl (by rfl) (fun W hW => by (go_simp; with_reducible rfl)) ?_
    simp only [Act.put, List.setIfInBounds_toArray, List.set_cons_zero, List.set_cons_succ]
    refine ord_take (o := ⟨some 18, _, _, _, _, none⟩) _ rfl (by rfl) (fun W hW => by (go_simp; with_reducible rfl)) ?_
    simp only [Act.put, List.setIfInBounds_toArray, List.set_cons_zero, List.set_cons_succ]
    refine ord_alone (o := ⟨none, _, _, _, _, none⟩) rfl (by rfl) (fun K hK => ?_)
    go_simp
    refine hK _ _ HE.out ?_
    clear hK K
    refine ord_done ?_
    go_wp2_with fail
    go_end0
    exact ⟨rfl, _, HA2.out.trans HQ.out⟩

/-- A leaf, by whether there is room. -/
def DOk (B : Nat) (w : World) (rb : Nat) (bv sv : Value) (bs : List UInt8) (w' : World) (x : Rs) : Prop := ∃ sv' s', Dw B w rb bv sv bs w' sv' s' ∧ s'.why = 0 ∧ s'.rs = x
theorem dleaf_made (B rb : Nat) (bv sv : Value) (bs : List UInt8) (s : Ds) (k n : Int) (str : ByteArray) (at' : Nat) (w : World) (h : Dp B w rb bv sv bs s) (hs : s.why = 0) (hc : s.cells ≤ 1024) (hol : s.out.length ≤ 10000000) :
    Calls Tryd.prog 56 #[.pointer (some ⟨rb, 0, none⟩), .agg #[.int .i64 k, .int .i64 n, .string str], .int .i64 at'] w fun r w' => r = .returned (.tuple #[]) ∧
      ResP (madeD s.rs s.pos at' ⟨k, n, str⟩) (fun x => DOk B w rb bv sv bs w' x.1) (fun e p => DEr B w rb bv sv bs e p w') := by
  refine (dleaf_any B rb bv sv bs s k n str at' w h hc hol).mono fun r w' hr => ⟨hr.1, ?_⟩
  obtain ⟨sv', h1⟩ := hr.2
  by_cases hb : 1024 < s.cells + 1
  · have : madeD s.rs s.pos at' ⟨k, n, str⟩ = .bad 7 at' := by unfold madeD; exact if_pos hb
    refine ResP.badI this ⟨sv', _, h1, ?_, ?_, by omega⟩ <;> simp only [Ds.count, if_pos hb, Ds.fail_zero hs]
  · have : madeD s.rs s.pos at' ⟨k, n, str⟩ = .ok (⟨s.pos, s.cells + 1, s.out ++ [⟨k, n, str⟩]⟩, 0, false) := by unfold madeD; exact if_neg hb
    refine ResP.okI this ⟨sv', _, h1, ?_, ?_⟩ <;> simp only [Ds.count, if_neg hb, hs, Ds.rs]
end Go.Proofs.YtkhjdcnlpablkaaDoor

/-! The document's reader: a text, a node's name, a binary. -/
namespace Go.Proofs.YtkhjdcnlpablkaaDoor
open Go.RowKit
open Go.Lib (byteCells)

set_option maxHeartbeats 1600000 in
set_option maxRecDepth 100000 in
theorem dtext_any (B rb : Nat) (bv sv : Value) (bs : List UInt8) (s : Ds) (tag at' : Nat) (htag : tag = 118 ∨ tag = 119) (hlen : bs.length ≤ 1048576) (hpos : 1 ≤ bs.length) (w : World) (h : Dp B w rb bv sv bs s) (hs : s.why = 0) :
    Calls Tryd.prog 58 #[.pointer (some ⟨rb, 0, none⟩), .int .u8 tag, .int .i64 at'] w fun r w' => ResP (textD bs s.pos tag at')
      (fun x => r = .returned (.string x.1) ∧ Dw B w rb bv sv bs w' sv { s with pos := x.2 })
      (fun e p => (∃ str, r = .returned (.string str)) ∧ DEr B w rb bv sv bs e p w') := by
  have H := Lib.hid h
  have HS := Lib.hid hs
  obtain ⟨k, hk⟩ : ∃ k, (if tag = 118 then 2 else 1) = k := ⟨_, rfl⟩
  have hk12 : 1 ≤ k ∧ k ≤ 2 := by rw [← hk]; split <;> omega
  have HX : Hid (textD bs s.pos tag at' = (numD bs s.pos k).bind fun n => (takeD bs (s.pos + k) n).bind fun l => if rightL l then .ok (⟨l.toArray⟩, s.pos + k + n) else .bad 20 at') := Lib.hid (by unfold textD; rw [hk])
  have H1 := dnum_any B rb bv sv bs s k hlen hpos (by omega) w h hs
  clear h hs
  cases hn : numD bs s.pos k with
  | bad e p =>
    replace H1 := callsBad H1 hn
    have HF : Hid (textD bs s.pos tag at' = .bad e p) := Lib.hid (by rw [HX.out, hn]; rfl)
    have HH1 := Lib.hid H1
    clear H1 hn
    rcases htag with rfl | rfl
    all_goals
      simp at hk
      subst hk
      go_enter Tryd.func58, Tryd.ntmps58
      go_wp2_with fail
      refine (HH1.out).mono ?_
      rintro r w1 ⟨rfl, hE⟩
      have HE := Lib.hid hE
      clear hE
      go_wp2_with fail
      go_ret
      exact ResP.badI HF.out ⟨⟨_, rfl⟩, HE.out⟩
  | ok n =>
    replace H1 := callsOk H1 hn
    have HH1 := Lib.hid H1
    have hno := numD_ok hn
    have hnb := beN_lt (rest bs s.pos k)
    rw [rest_len hno.1, ← hno.2] at hnb
    have hnb2 : n < 65536 := by
      have : (256 : Nat) ^ k ≤ 256 ^ 2 := Nat.pow_le_pow_right (by omega) (by omega)
      omega
    cases hl : takeD bs (s.pos + k) n with
    | bad e p =>
      have HF : Hid (textD bs s.pos tag at' = .bad e p) := Lib.hid (by rw [HX.out, hn]; simp only [Res.bind]; rw [hl])
      have HL := Lib.hid hl
      clear H1 hn hno hnb hl
      rcases htag with rfl | rfl
      all_goals
        simp at hk
        subst hk
        go_enter Tryd.func58, Tryd.ntmps58
        go_wp2_with fail
        refine (HH1.out).mono ?_
        rintro r w1 ⟨rfl, h1⟩
        have HH2 := Lib.hid (callsBad (dtake_any B rb bv sv bs _ n hlen hpos (by omega) w1 h1.rp HS.out) HL.out)
        have HW1 := Lib.hid h1
        clear h1
        go_wp2_with fail
        refine (HH2.out).mono ?_
        rintro r w2 ⟨rfl, hE⟩
        have HE := Lib.hid (DEr.behind HW1.out hE)
        have hcv := run_str (rd_nil w2) rfl
        clear hE
        go_wp2_with fail
        go_ret
        exact ResP.badI HF.out ⟨⟨_, rfl⟩, HE.out⟩
    | ok l =>
      have hlo := takeD_ok hl
      have hll : l.length = n := by rw [hlo.2]; exact rest_len hlo.1
      have HL := Lib.hid hl
      have HLL := Lib.hid hll
      obtain ⟨str, hstr⟩ : ∃ str : ByteArray, (⟨l.toArray⟩ : ByteArray) = str := ⟨_, rfl⟩
      have hsz : str.size = n := by rw [← hstr, ba_size, hll]
      have hsl : str.data.toList = l := by rw [← hstr]
      have HSL := Lib.hid hsl
      have HSZ := Lib.hid hsz
      have HSTR := Lib.hid hstr
      obtain ⟨b, hb⟩ : ∃ b, rightL l = b := ⟨_, rfl⟩
      have HF : Hid (textD bs s.pos tag at' = if b then .ok (str, s.pos + k + n) else .bad 20 at') := Lib.hid (by rw [HX.out, hn]; simp only [Res.bind]; rw [hl]; simp only; rw [hb, hstr])
      have HB : Hid (rightN l = if b then 0 else 20) := Lib.hid (by unfold rightN; rw [hb])
      clear H1 hn hno hnb hl hlo hll hstr hsz hsl hb
      rcases htag with rfl | rfl
      all_goals
        simp at hk
        subst hk
        go_enter Tryd.func58, Tryd.ntmps58
        go_wp2_with fail
        refine (HH1.out).mono ?_
        rintro r w1 ⟨rfl, h1⟩
        have HH2 := Lib.hid (callsOk (dtake_any B rb bv sv bs _ n hlen hpos (by omega) w1 h1.rp HS.out) HL.out)
        have HW1 := Lib.hid h1
        clear h1
        go_wp2_with fail
        refine (HH2.out).mono ?_
        rintro r w2 ⟨_, ⟨g, off, cap, rfl, hrd⟩, h2⟩
        have hcv := run_str hrd.now HLL.out
        rw [HSTR.out] at hcv
        have HW2 := Lib.hid (HW1.out.trans h2)
        have H3 := rright_any str w2 (by rw [HSZ.out]; unfold maxLen; omega)
        rw [HSL.out, HB.out] at H3
        have HH3 := Lib.hid H3
        have HRD := Lib.hid hrd
        clear h2 H3 hrd
        cases b with
        | true =>
          go_wp2_with fail
          refine (HH3.out).mono ?_
          rintro r w3 ⟨rfl, hb3⟩
          have HW3 := Lib.hid (HW2.out.below hb3)
          have hcv2 := run_str (HRD.out.now.below (Nat.le_refl _) hb3) HLL.out
          rw [HSTR.out] at hcv2
          clear hb3 hcv
          go_wp2_with fail
          go_ret
          exact ResP.okI HF.out ⟨rfl, HW3.out⟩
        | false =>
          go_wp2_with fail
          refine (HH3.out).mono ?_
          rintro r w3 ⟨rfl, hb3⟩
          have HW3 := Lib.hid (HW2.out.below hb3)
          have H4 := Lib.hid (dfail_any B rb bv sv bs _ 20 at' w3 HW3.out.rp)
          have HRD3 := Lib.hid (HRD.out.step (hb3.mono (by have h1 := H.out.Ble; have h2 := HW2.out.fr.size; omega)))
          clear hb3 hcv
          go_wp2_with fail
          refine (H4.out).mono ?_
          rintro r w4 ⟨rfl, h4⟩
          have hcv2 := run_str (HRD3.out.step (h4.bel HW3.out.rp)).now HLL.out
          rw [HSTR.out] at hcv2
          have HW4 := Lib.hid h4
          clear h4
          go_wp2_with fail
          go_ret
          exact ResP.badI HF.out ⟨⟨_, rfl⟩, .fail (HW3.out.trans HW4.out) HS.out (by omega)⟩

set_option maxHeartbeats 1600000 in
set_option maxRecDepth 100000 in
theorem dnamed_any (B rb : Nat) (bv sv : Value) (bs : List UInt8) (s : Ds) (hlen : bs.length ≤ 1048576) (hpos : 1 ≤ bs.length) (w : World) (h : Dp B w rb bv sv bs s) (hs : s.why = 0) :
    Calls Tryd.prog 80 #[.pointer (some ⟨rb, 0, none⟩)] w fun r w' => r = .returned (.tuple #[]) ∧ ResP (hostD bs s.pos)
      (fun p => Dw B w rb bv sv bs w' sv { s with pos := p })
      (fun e p => DEr B w rb bv sv bs e p w') := by
  obtain ⟨c0, c1, c2, c3, c4, c5⟩ := Ds.cell h.blk
  have H := Lib.hid h
  have HS := Lib.hid hs
  have H1 := dtake_any B rb bv sv bs s 1 hlen hpos (by omega) w h hs
  clear h hs c0 c2 c3 c4 c5
  have hX : hostD bs s.pos = (numD bs s.pos 1).bind fun tag => if tag ≠ 119 ∧ tag ≠ 118 then .bad 61 s.pos else (textD bs (s.pos + 1) tag s.pos).bind fun p => .ok p.2 := rfl
  by_cases hn : s.pos + 1 ≤ bs.length
  · have hnum : numD bs s.pos 1 = .ok (beN (rest bs s.pos 1)) := by unfold numD; rw [if_neg (by omega)]
    have htk : takeD bs s.pos 1 = .ok (rest bs s.pos 1) := by unfold takeD; rw [if_neg (by omega)]
    rw [hnum] at hX
    replace H1 := callsOk H1 htk
    obtain ⟨c, hc⟩ : ∃ c, rest bs s.pos 1 = [c] := by
      have := rest_len hn
      match rest bs s.pos 1, this with
      | [c], _ => exact ⟨c, rfl⟩
    rw [hc] at hX H1
    have hbe : beN [c] = c.toNat := by simp [beN]
    rw [hbe] at hX
    simp only [Res.bind] at hX
    obtain ⟨y, hy⟩ : ∃ y, c.toNat = y := ⟨_, rfl⟩
    rw [hy] at hX
    have hyb := UInt8.toNat_lt c
    rw [hy] at hyb
    have HH1 := Lib.hid H1
    have HY := Lib.hid hy
    have HX := Lib.hid hX
    obtain ⟨p0, hp0⟩ : ∃ p0, s.pos = p0 := ⟨_, rfl⟩
    rw [hp0] at c1
    have HP0 := Lib.hid hp0
    have hcc : (byteCells [c])[0]? = some (.int .u8 y) := by unfold byteCells; simp [hy]
    clear H1 hn hnum htk hX hc hbe hy hp0
    by_cases hbad : y ≠ 119 ∧ y ≠ 118
    · have HF : Hid (hostD bs s.pos = .bad 61 s.pos) := Lib.hid (by rw [HX.out, if_pos hbad])
      have q1 : ((y : Int) != 118) = true := by simp; omega
      have q2 : ((y : Int) != 119) = true := by simp; omega
      have q1' : ((y : Int) == 118) = false := by simp; omega
      have q2' : ((y : Int) == 119) = false := by simp; omega
      clear hbad
      go_enter Tryd.func80, Tryd.ntmps80
      go_wp2_with fail
      refine (HH1.out).mono ?_
      rintro r w1 ⟨_, ⟨g, off, cap, rfl, hrd⟩, h1⟩
      obtain ⟨g', off', cap', hv, hr1, hr2, hr3⟩ := hrd.now.at (by omega)
      simp at hv
      obtain ⟨⟨rfl, rfl⟩, rfl⟩ := hv
      have d0 := hr3 0 (by omega)
      rw [hcc, Nat.add_zero] at d0
      have HW1 := Lib.hid h1
      have H4 := Lib.hid (dfail_any B rb bv sv bs _ 61 p0 w1 h1.rp)
      clear hr1 hr2 hr3 h1 hrd hcc
      go_wp2_with fail
      refine (H4.out).mono ?_
      rintro r w4 ⟨rfl, h4⟩
      have HW4 := Lib.hid h4
      clear h4
      go_wp2_with fail
      refine bodyPost_ret (results_none rfl _ _ _) rfl ⟨rfl, ?_⟩
      exact ResP.badI HF.out (DEr.fail (s := { s with pos := s.pos + 1 }) (by have := HW1.out.trans HW4.out; rw [← HP0.out] at this; exact this) HS.out (by omega))
    · have hy2 : y = 118 ∨ y = 119 := by omega
      have HF : Hid (hostD bs s.pos = (textD bs (s.pos + 1) y s.pos).bind fun p => .ok p.2) := Lib.hid (by rw [HX.out, if_neg hbad]; cases textD bs (s.pos + 1) y s.pos <;> rfl)
      clear hbad
      have HY2 := Lib.hid hy2
      have HTX : Hid (∀ W, Dw B w rb bv sv bs W sv { s with pos := s.pos + 1 } → Calls Tryd.prog 58 #[.pointer (some ⟨rb, 0, none⟩), .int .u8 y, .int .i64 p0] W fun r w' => ResP (textD bs (s.pos + 1) y s.pos)
        (fun x => r = .returned (.string x.1) ∧ Dw B W rb bv sv bs w' sv { s with pos := x.2 })
        (fun e p => (∃ str, r = .returned (.string str)) ∧ DEr B W rb bv sv bs e p w')) := Lib.hid (fun W hW => by
          have := dtext_any B rb bv sv bs _ y p0 hy2 hlen hpos W hW.rp HS.out
          rw [HP0.out]
          rw [HP0.out] at this
          exact this)
      rcases hy2 with rfl | rfl
      all_goals
        go_enter Tryd.func80, Tryd.ntmps80
        go_wp2_with fail
        refine (HH1.out).mono ?_
        rintro r w1 ⟨_, ⟨g, off, cap, rfl, hrd⟩, h1⟩
        obtain ⟨g', off', cap', hv, hr1, hr2, hr3⟩ := hrd.now.at (by omega)
        simp at hv
        obtain ⟨⟨rfl, rfl⟩, rfl⟩ := hv
        have d0 := hr3 0 (by omega)
        rw [hcc, Nat.add_zero] at d0
        have HW1 := Lib.hid h1
        have H4 := Lib.hid (HTX.out w1 h1)
        clear hr1 hr2 hr3 h1 hrd hcc HTX
        go_wp2_with fail
        refine (H4.out).mono ?_
        rintro r w4 h4
        have HW4 := Lib.hid h4
        clear h4
        cases hT : textD bs (s.pos + 1) _ s.pos with
        | ok x =>
          obtain ⟨rfl, h5⟩ := HW4.out.okE hT
          have HF2 : Hid (hostD bs s.pos = .ok x.2) := Lib.hid (by rw [HF.out, hT]; rfl)
          have HW5 := Lib.hid (HW1.out.trans h5)
          clear hT h5 HW4
          go_wp2_with fail
          go_end0
          exact ⟨rfl, ResP.okI HF2.out HW5.out⟩
        | bad e p =>
          obtain ⟨⟨str, rfl⟩, h5⟩ := HW4.out.badE hT
          have HF2 : Hid (hostD bs s.pos = .bad e p) := Lib.hid (by rw [HF.out, hT]; rfl)
          have HW5 := Lib.hid (DEr.behind HW1.out h5)
          clear hT h5 HW4
          go_wp2_with fail
          go_end0
          exact ⟨rfl, ResP.badI HF2.out HW5.out⟩
  · have hnum : numD bs s.pos 1 = .bad 62 bs.length := by unfold numD; rw [if_pos (by omega)]
    have htk : takeD bs s.pos 1 = .bad 62 bs.length := by unfold takeD; rw [if_pos (by omega)]
    rw [hnum] at hX
    have HF : Hid (hostD bs s.pos = .bad 62 bs.length) := Lib.hid hX
    have HH1 := Lib.hid (callsBad H1 htk)
    obtain ⟨p0, hp0⟩ : ∃ p0, s.pos = p0 := ⟨_, rfl⟩
    rw [hp0] at c1
    clear H1 hn hnum htk hX hp0
    go_enter Tryd.func80, Tryd.ntmps80
    go_wp2_with fail
    refine (HH1.out).mono ?_
    rintro r w1 ⟨rfl, hE⟩
    have HE := Lib.hid hE
    clear hE
    go_wp2_with fail
    refine bodyPost_ret (results_none rfl _ _ _) rfl ⟨rfl, ResP.badI HF.out HE.out⟩
end Go.Proofs.YtkhjdcnlpablkaaDoor

/-! The document's reader: a number of any size. -/
namespace Go.Proofs.YtkhjdcnlpablkaaDoor
open Go.RowKit
open Go.Lib (byteCells)

/-- What a method leaves that reads a term's rest. -/
def DPost (B : Nat) (w : World) (rb : Nat) (bv sv : Value) (bs : List UInt8) (X : Res (Rs × Nat × Bool)) (r : Ending) (w' : World) : Prop :=
  r = .returned (.tuple #[]) ∧ ResP X (fun x => DOk B w rb bv sv bs w' x.1) (fun e p => DEr B w rb bv sv bs e p w')
theorem DOk.behind {B rb : Nat} {w w1 w2 : World} {bv sv sv1 : Value} {bs : List UInt8} {s1 : Ds} {x : Rs} (h : Dw B w rb bv sv bs w1 sv1 s1) (k : DOk B w1 rb bv sv1 bs w2 x) : DOk B w rb bv sv bs w2 x := by
  obtain ⟨sv2, s2, h1, h2⟩ := k
  exact ⟨sv2, s2, h.trans h1, h2⟩
theorem DPost.behind {B rb : Nat} {w w1 w2 : World} {bv sv sv1 : Value} {bs : List UInt8} {s1 : Ds} {X : Res (Rs × Nat × Bool)} {r : Ending} (h : Dw B w rb bv sv bs w1 sv1 s1) (k : DPost B w1 rb bv sv1 bs X r w2) : DPost B w rb bv sv bs X r w2 := by
  refine ⟨k.1, ?_⟩
  cases X with
  | ok x => exact DOk.behind h k.2
  | bad e p => exact DEr.behind h k.2

theorem bigD_two {bs : List UInt8} {p tg : Nat} {a b : UInt8} (h : takeD bs p 2 = .ok [a, b]) : bigD bs p tg = (takeD bs (p + 2) a.toNat).bind fun d =>
    if 1 < b.toNat then .bad 1 tg
    else if 9223372036854775808 < leV d ∨ (leV d = 9223372036854775808 ∧ b.toNat = 0) then .bad 7 tg
    else .ok (if b.toNat = 1 then -(leV d : Int) else (leV d : Int), p + 2 + a.toNat) := by
  obtain ⟨h1, h2⟩ := takeD_ok h
  have h3 : bs.drop p = [a, b] ++ bs.drop (p + 2) := by
    have e : bs.drop p = (bs.drop p).take 2 ++ (bs.drop p).drop 2 := (List.take_append_drop 2 _).symm
    rw [e, List.drop_drop, show (bs.drop p).take 2 = [a, b] from h2.symm]
  have n1 : numD bs p 1 = .ok a.toNat := by
    unfold numD rest
    rw [if_neg (by omega), h3]
    simp [beN]
  have n2 : numD bs (p + 1) 1 = .ok b.toNat := by
    unfold numD rest
    rw [if_neg (by omega), ← List.drop_drop, h3]
    simp [beN]
  unfold bigD
  rw [n1]
  simp only [Res.bind]
  rw [n2]
theorem bigD_short {bs : List UInt8} {p tg : Nat} (h : bs.length < p + 2) : bigD bs p tg = .bad 62 bs.length := by
  unfold bigD
  by_cases h1 : bs.length < p + 1
  · have : numD bs p 1 = .bad 62 bs.length := by unfold numD; rw [if_pos h1]
    rw [this]; rfl
  · have : numD bs p 1 = .ok (beN (rest bs p 1)) := by unfold numD; rw [if_neg h1]
    rw [this]
    have h2 : numD bs (p + 1) 1 = .bad 62 bs.length := by unfold numD; rw [if_pos (by omega)]
    simp only [Res.bind]
    rw [h2]

set_option maxHeartbeats 3200000 in
set_option maxRecDepth 100000 in
theorem dbig_any (B rb : Nat) (bv sv : Value) (bs : List UInt8) (s : Ds) (at' : Nat) (hlen : bs.length ≤ 1048576) (hpos : 1 ≤ bs.length) (w : World) (h : Dp B w rb bv sv bs s) (hs : s.why = 0) (hcl : s.cells ≤ 1024) (hol : s.out.length ≤ 10000000) :
    Calls Tryd.prog 57 #[.pointer (some ⟨rb, 0, none⟩), .int .i64 at'] w (DPost B w rb bv sv bs ((bigD bs s.pos at').bind fun x => madeD s.rs x.2 at' (intC x.1))) := by
  have H := Lib.hid h
  have HS := Lib.hid hs
  have HO := Lib.hid (⟨hcl, hol⟩ : s.cells ≤ 1024 ∧ s.out.length ≤ 10000000)
  have H1 := dtake_any B rb bv sv bs s 2 hlen hpos (by omega) w h hs
  clear h hs
  by_cases h2 : bs.length < s.pos + 2
  · have htk : takeD bs s.pos 2 = .bad 62 bs.length := by unfold takeD; rw [if_pos h2]
    have HF : Hid ((bigD bs s.pos at').bind (fun x => madeD s.rs x.2 at' (intC x.1)) = .bad 62 bs.length) := Lib.hid (by rw [bigD_short h2]; rfl)
    have HH1 := Lib.hid (callsBad H1 htk)
    clear H1 htk h2
    go_enter Tryd.func57, Tryd.ntmps57
    go_wp2_with fail
    refine (HH1.out).mono ?_
    rintro r w1 ⟨rfl, hE⟩
    have HE := Lib.hid hE
    clear hE
    go_wp2_with fail
    refine bodyPost_ret (results_none rfl _ _ _) rfl ⟨rfl, ResP.badI HF.out HE.out⟩
  · have htk : takeD bs s.pos 2 = .ok (rest bs s.pos 2) := by unfold takeD; rw [if_neg h2]
    obtain ⟨a, b, hab⟩ : ∃ a b, rest bs s.pos 2 = [a, b] := by
      have := rest_len (bs := bs) (p := s.pos) (n := 2) (by omega)
      match rest bs s.pos 2, this with
      | [a, b], _ => exact ⟨a, b, rfl⟩
    rw [hab] at htk
    have HH1 := Lib.hid (callsOk H1 htk)
    have hbig := bigD_two (tg := at') htk
    obtain ⟨n, hn⟩ : ∃ n, a.toNat = n := ⟨_, rfl⟩
    obtain ⟨sign, hsn⟩ : ∃ sign, b.toNat = sign := ⟨_, rfl⟩
    have hnb := UInt8.toNat_lt a
    have hsb := UInt8.toNat_lt b
    rw [hn] at hnb
    rw [hsn] at hsb
    rw [hn, hsn] at hbig
    have hc0 : (byteCells [a, b])[0]? = some (.int .u8 n) := by unfold byteCells; simp [hn]
    have hc1 : (byteCells [a, b])[1]? = some (.int .u8 sign) := by unfold byteCells; simp [hsn]
    have HBG := Lib.hid hbig
    clear H1 htk hab hbig hn hsn h2
    cases hl : takeD bs (s.pos + 2) n with
    | bad e p =>
      have HF : Hid ((bigD bs s.pos at').bind (fun x => madeD s.rs x.2 at' (intC x.1)) = .bad e p) := Lib.hid (by rw [HBG.out, hl]; rfl)
      have HL := Lib.hid hl
      clear hl
      go_enter Tryd.func57, Tryd.ntmps57
      go_wp2_with fail
      refine (HH1.out).mono ?_
      rintro r w1 ⟨_, ⟨g0, off0, cap0, rfl, hrd⟩, h1⟩
      obtain ⟨g', off', cap', hv, _, _, hr3⟩ := hrd.now.at (by omega)
      simp at hv
      obtain ⟨⟨rfl, rfl⟩, rfl⟩ := hv
      have d0 := hr3 0 (by omega)
      rw [hc0, Nat.add_zero] at d0
      have HW1 := Lib.hid h1
      have H2 := Lib.hid (callsBad (dtake_any B rb bv sv bs _ n hlen hpos (by omega) w1 h1.rp HS.out) HL.out)
      clear hr3 hrd h1
      go_wp2_with fail
      refine (H2.out).mono ?_
      rintro r w2 ⟨rfl, hE⟩
      have HE := Lib.hid (DEr.behind HW1.out hE)
      clear hE
      go_wp2_with fail
      refine bodyPost_ret (results_none rfl _ _ _) rfl ⟨rfl, ResP.badI HF.out HE.out⟩
    | ok l =>
      have HL := Lib.hid hl
      have hll : l.length = n := by
        have h1 := takeD_ok hl
        rw [h1.2]; exact rest_len h1.1
      have HLL := Lib.hid hll
      have HF : Hid (bigD bs s.pos at' = if 1 < sign then .bad 1 at' else if 9223372036854775808 < leV l ∨ (leV l = 9223372036854775808 ∧ sign = 0) then .bad 7 at' else .ok (if sign = 1 then -(leV l : Int) else (leV l : Int), s.pos + 2 + n)) := Lib.hid (by rw [HBG.out, hl]; rfl)
      clear hl hll
      go_enter Tryd.func57, Tryd.ntmps57
      go_wp2_with fail
      refine (HH1.out).mono ?_
      rintro r w1 ⟨_, ⟨g0, off0, cap0, rfl, hrd⟩, h1⟩
      obtain ⟨g', off', cap', hv, _, _, hr3⟩ := hrd.now.at (by omega)
      simp at hv
      obtain ⟨⟨rfl, rfl⟩, rfl⟩ := hv
      have d0 := hr3 0 (by omega)
      rw [hc0, Nat.add_zero] at d0
      have HW1 := Lib.hid h1
      have H2 := Lib.hid (callsOk (dtake_any B rb bv sv bs _ n hlen hpos (by omega) w1 h1.rp HS.out) HL.out)
      have HRD0 := Lib.hid hrd
      clear hr3 hrd h1
      go_wp2_with fail
      refine (H2.out).mono ?_
      rintro r w3 ⟨_, ⟨g, off, cap, rfl, hrd⟩, h3⟩
      have hr0 := (HRD0.out.step (h3.bel HW1.out.rp)).now
      obtain ⟨g', off', cap', hv, _, _, hr3⟩ := hr0.at (by omega)
      simp at hv
      obtain ⟨⟨rfl, rfl⟩, rfl⟩ := hv
      have d1 := hr3 1 (by omega)
      rw [hc1] at d1
      have HRD := Lib.hid hrd.now
      have HW3 := Lib.hid (HW1.out.trans h3)
      have H4 := fun e => dfail_any B rb bv sv bs _ e at' w3 h3.rp
      have HH4 := Lib.hid H4
      have HLF : Hid (∀ (k : Int), Calls Tryd.prog 56 #[.pointer (some ⟨rb, 0, none⟩), .agg #[.int .i64 1, .int .i64 k, .string ⟨#[]⟩], .int .i64 at'] w3 (DPost B w3 rb bv sv bs (madeD s.rs (s.pos + 2 + n) at' (intC k)))) := Lib.hid (fun k =>
        dleaf_made B rb bv sv bs _ 1 k ⟨#[]⟩ at' w3 h3.rp HS.out HO.out.1 HO.out.2)
      clear hr3 hr0 h3 hrd H4 HRD0 d0
      by_cases hsg : 1 < sign
      · have q1 : decide (1 < (sign : Int)) = true := by simp; omega
        have q2 : decide (1 < sign) = true := by simp; omega
        have HFB : Hid ((bigD bs s.pos at').bind (fun x => madeD s.rs x.2 at' (intC x.1)) = .bad 1 at') := Lib.hid (by rw [HF.out, if_pos hsg]; rfl)
        have H5 := Lib.hid (HH4.out 1)
        clear hsg
        go_wp2_with fail
        refine (H5.out).mono ?_
        rintro r w4 ⟨rfl, h4⟩
        have HW4 := Lib.hid h4
        clear h4
        go_wp2_with fail
        refine bodyPost_ret (results_none rfl _ _ _) rfl ⟨rfl, ResP.badI HFB.out (DEr.behind HW3.out (.fail HW4.out HS.out (by omega)))⟩
      · have q1 : decide (1 < (sign : Int)) = false := by simp; omega
        have q2 : decide (1 < sign) = false := by simp; omega
        have H5 := Lib.hid (HH4.out 7)
        have n1 : IntKind.i64.wrap ((n : Int) - 1) = (n : Int) - 1 := by rw [IntKind.wrap_i64]; omega
        go_wp2_with fail
        go_loopg [7, 8, 9] n (fun g s7 s8 s9 wr => ∃ (i : Int) (u V : Nat) (bb : Bool), s7 = .int .u64 u ∧ s8 = .bool bb ∧ s9 = .int .i64 i ∧ i + 1 = g ∧ g ≤ n ∧ V = leV (l.drop g) ∧ u = V % 18446744073709551616 ∧ bb = decide (18446744073709551616 ≤ V) ∧ wr = w3)
        case atStart => exact ⟨_, 0, 0, false, rfl, rfl, rfl, by omega, by omega, by rw [List.drop_of_length_le (by rw [HLL.out]; omega)]; rfl, by omega, by simp, rfl⟩
        case round =>
          obtain ⟨i, u, V, bb, rfl, rfl, rfl, hi, hgn, hV, hu, hbb, rfl⟩ := hrel
          cases gk with
          | zero =>
            obtain rfl : i = -1 := by omega
            have hu0 : leV l = V := hV.symm
            rw [hu0] at HF
            clear hV hu0 hgn hi
            by_cases hbad : 9223372036854775808 < V ∨ (V = 9223372036854775808 ∧ sign = 0)
            · have HFB : Hid ((bigD bs s.pos at').bind (fun x => madeD s.rs x.2 at' (intC x.1)) = .bad 7 at') := Lib.hid (by rw [HF.out, if_neg hsg, if_pos hbad]; rfl)
              by_cases hb64 : 18446744073709551616 ≤ V
              · obtain rfl : bb = true := by rw [hbb]; simp; omega
                clear hbb hbad
                go_wp2_with fail
                refine (H5.out).mono ?_
                rintro r w4 ⟨rfl, h4⟩
                have HW4 := Lib.hid h4
                clear h4
                go_wp2_with fail
                refine bodyPost_ret (results_none rfl _ _ _) rfl ⟨rfl, ResP.badI HFB.out (DEr.behind HW3.out (.fail HW4.out HS.out (by omega)))⟩
              · obtain rfl : bb = false := by rw [hbb]; simp; omega
                obtain rfl : u = V := by omega
                clear hbb hu
                rcases hbad with hb | ⟨rfl, rfl⟩
                · have t1 : decide ((9223372036854775808 : Int) < (u : Int)) = true := by simp; omega
                  have t2 : decide (9223372036854775808 < u) = true := by simp; omega
                  have t3 : ((u : Int) == 9223372036854775808) = false := by simp; omega
                  go_wp2_with fail
                  refine (H5.out).mono ?_
                  rintro r w4 ⟨rfl, h4⟩
                  have HW4 := Lib.hid h4
                  clear h4
                  go_wp2_with fail
                  refine bodyPost_ret (results_none rfl _ _ _) rfl ⟨rfl, ResP.badI HFB.out (DEr.behind HW3.out (.fail HW4.out HS.out (by omega)))⟩
                · go_wp2_with fail
                  refine (H5.out).mono ?_
                  rintro r w4 ⟨rfl, h4⟩
                  have HW4 := Lib.hid h4
                  clear h4
                  go_wp2_with fail
                  refine bodyPost_ret (results_none rfl _ _ _) rfl ⟨rfl, ResP.badI HFB.out (DEr.behind HW3.out (.fail HW4.out HS.out (by omega)))⟩
            · obtain rfl : bb = false := by rw [hbb]; simp; omega
              obtain rfl : u = V := by omega
              have HFB : Hid ((bigD bs s.pos at').bind (fun x => madeD s.rs x.2 at' (intC x.1)) = madeD s.rs (s.pos + 2 + n) at' (intC (if sign = 1 then -(u : Int) else (u : Int)))) := Lib.hid (by rw [HF.out, if_neg hsg, if_neg hbad]; rfl)
              have t1 : decide ((9223372036854775808 : Int) < (u : Int)) = false := by simp; omega
              have t2 : decide (9223372036854775808 < u) = false := by simp; omega
              clear hbb hu
              obtain rfl | rfl : sign = 0 ∨ sign = 1 := by omega
              · have t3 : ((u : Int) == 9223372036854775808) = false := by simp; omega
                have t4 : IntKind.i64.wrap (u : Int) = u := by rw [IntKind.wrap_i64]; omega
                have H6 := Lib.hid (HLF.out (u : Int))
                clear hbad
                go_wp2_with fail
                refine (H6.out).mono ?_
                rintro r w4 h4
                obtain rfl := h4.1
                have HW4 := Lib.hid h4
                clear h4
                go_wp2_with fail
                go_end0
                rw [HFB.out]
                exact DPost.behind HW3.out HW4.out
              · have H6 := Lib.hid (HLF.out (-(u : Int)))
                by_cases he : u = 9223372036854775808
                · subst he
                  have t4 : IntKind.i64.wrap (9223372036854775808 : Int) = -9223372036854775808 := by rw [IntKind.wrap_i64]; omega
                  have t5 : IntKind.i64.wrap (9223372036854775808 : Int) = -9223372036854775808 := t4
                  clear hbad
                  go_wp2_with fail
                  refine (H6.out).mono ?_
                  rintro r w4 h4
                  obtain rfl := h4.1
                  have HW4 := Lib.hid h4
                  clear h4
                  go_wp2_with fail
                  go_end0
                  rw [HFB.out]
                  exact DPost.behind HW3.out HW4.out
                · have t3 : ((u : Int) == 9223372036854775808) = false := by simp; omega
                  have t4 : IntKind.i64.wrap (u : Int) = u := by rw [IntKind.wrap_i64]; omega
                  have t5 : IntKind.i64.wrap (-(u : Int)) = -(u : Int) := by rw [IntKind.wrap_i64]; omega
                  clear he hbad
                  go_wp2_with fail
                  refine (H6.out).mono ?_
                  rintro r w4 h4
                  obtain rfl := h4.1
                  have HW4 := Lib.hid h4
                  clear h4
                  go_wp2_with fail
                  go_end0
                  rw [HFB.out]
                  exact DPost.behind HW3.out HW4.out
          | succ g' =>
            obtain rfl : i = (g' : Int) := by omega
            have hkl : g' < l.length := by have := HLL.out; omega
            obtain ⟨c, hc⟩ : ∃ c, l[g']? = some c := ⟨l[g'], List.getElem?_eq_getElem _⟩
            have t3 : decide (0 ≤ (g' : Int)) = true := by simp
            have hck := cells_byte HRD.out hc HLL.out
            have hcb := UInt8.toNat_lt c
            have hnx := leV_drop l g' c hc
            rw [← hV] at hnx
            obtain ⟨y, hy⟩ : ∃ y, c.toNat = y := ⟨_, rfl⟩
            rw [hy] at hck hcb hnx
            obtain ⟨x, hx⟩ : ∃ x, u % 72057594037927936 = x := ⟨_, rfl⟩
            have hor := u64_or8 x y (by omega) hcb
            have h256 : IntKind.u64.wrap ((u : Int) * 256) = (x : Int) * 256 := by rw [IntKind.wrap_u64]; omega
            have hg1 : IntKind.i64.wrap ((g' : Int) - 1) = (g' : Int) - 1 := by rw [IntKind.wrap_i64]; omega
            have hkz : (g' : Int) < (n : Int) := by have := HLL.out; omega
            have hkz' : g' < n := by have := HLL.out; omega
            have HN := Lib.hid hnx
            have HU : Hid (x * 256 + y = (y + 256 * V) % 18446744073709551616) := Lib.hid (by omega)
            have hub : u < 18446744073709551616 := by omega
            cases bb with
            | true =>
              have HB : Hid (true = decide (18446744073709551616 ≤ y + 256 * V)) := Lib.hid (by
                have := of_decide_eq_true hbb.symm
                simp; omega)
              clear hbb hu hV hc hnx hy hx
              go_wp2_with fail
              go_roundg g'
              case measure => omega
              case rel => exact ⟨(g' : Int) - 1, x * 256 + y, y + 256 * V, true, by first | rfl | (congr 1; omega), rfl, rfl, by omega, by omega, HN.out.symm, HU.out, HB.out, rfl⟩
            | false =>
              have hV64 : V < 18446744073709551616 := by have := of_decide_eq_false hbb.symm; omega
              obtain rfl : u = V := by omega
              by_cases hbig : 72057594037927936 ≤ u
              · have HB : Hid (true = decide (18446744073709551616 ≤ y + 256 * u)) := Lib.hid (by simp; omega)
                obtain ⟨z, hz⟩ : ∃ z, u / 72057594037927936 = z := ⟨_, rfl⟩
                have t1 : (u : Int) / 72057594037927936 = (z : Int) := by omega
                have t4 : ((z : Int) == 0) = false := by simp; omega
                have t5 : ((z : Int) != 0) = true := by simp; omega
                clear hbb hu hV hc hnx hy hx hbig hz
                go_wp2_with fail
                go_roundg g'
                case measure => omega
                case rel => exact ⟨(g' : Int) - 1, x * 256 + y, y + 256 * u, true, by first | rfl | (congr 1; omega), rfl, rfl, by omega, by omega, HN.out.symm, HU.out, HB.out, rfl⟩
              · have HB : Hid (false = decide (18446744073709551616 ≤ y + 256 * u)) := Lib.hid (by simp; omega)
                have t1 : (u : Int) / 72057594037927936 = 0 := by omega
                clear hbb hu hV hc hnx hy hx hbig
                go_wp2_with fail
                go_roundg g'
                case measure => omega
                case rel => exact ⟨(g' : Int) - 1, x * 256 + y, y + 256 * u, false, by first | rfl | (congr 1; omega), rfl, rfl, by omega, by omega, HN.out.symm, HU.out, HB.out, rfl⟩
end Go.Proofs.YtkhjdcnlpablkaaDoor

/-! The document's reader: a process, a binary, a list of bytes. -/
namespace Go.Proofs.YtkhjdcnlpablkaaDoor
open Go.RowKit
open Go.Lib (byteCells)

theorem num_lt' {bs : List UInt8} {p n v : Nat} (h : numD bs p n = .ok v) : v < 256 ^ n := by
  have h2 := numD_ok h
  have := beN_lt (rest bs p n)
  rw [rest_len h2.1] at this
  rw [h2.2]
  exact this
theorem pidD_short {bs : List UInt8} {pos p tg : Nat} (hh : hostD bs pos = .ok p) (h : bs.length < p + 12) : pidD bs pos tg = .bad 62 bs.length := by
  have bad : ∀ q n, bs.length < q + n → numD bs q n = .bad 62 bs.length := fun q n h => by unfold numD; rw [if_pos h]
  have ok : ∀ q n, ¬ bs.length < q + n → numD bs q n = .ok (beN (rest bs q n)) := fun q n h => by unfold numD; rw [if_neg h]
  unfold pidD
  rw [hh]
  simp only [Res.bind]
  by_cases h1 : bs.length < p + 4
  · rw [bad _ _ h1]
  · rw [ok _ _ h1]
    simp only
    by_cases h2 : bs.length < p + 4 + 4
    · rw [bad _ _ h2]
    · rw [ok _ _ h2]
      simp only
      rw [bad _ _ (show bs.length < p + 8 + 4 by omega)]
theorem pidD_long {bs : List UInt8} {pos p tg : Nat} (hh : hostD bs pos = .ok p) (h : ¬ bs.length < p + 12) : pidD bs pos tg =
    if 256 < beN (rest bs (p + 4) 4) ∨ beN (rest bs p 4) + beN (rest bs (p + 4) 4) * 4294967296 < 1 ∨ 1099511627776 < beN (rest bs p 4) + beN (rest bs (p + 4) 4) * 4294967296 then .bad 1 tg
    else .ok (((beN (rest bs p 4) + beN (rest bs (p + 4) 4) * 4294967296 : Nat) : Int), p + 12) := by
  have ok : ∀ q n, ¬ bs.length < q + n → numD bs q n = .ok (beN (rest bs q n)) := fun q n h => by unfold numD; rw [if_neg h]
  unfold pidD
  rw [hh]
  simp only [Res.bind]
  rw [ok _ _ (by omega)]
  simp only
  rw [ok _ _ (by omega)]
  simp only
  rw [ok (p + 8) 4 (by omega)]

set_option maxHeartbeats 3200000 in
set_option maxRecDepth 100000 in
theorem dpid_any (B rb : Nat) (bv sv : Value) (bs : List UInt8) (s : Ds) (at' : Nat) (hlen : bs.length ≤ 1048576) (hpos : 1 ≤ bs.length) (w : World) (h : Dp B w rb bv sv bs s) (hs : s.why = 0) (hcl : s.cells ≤ 1024) (hol : s.out.length ≤ 10000000) :
    Calls Tryd.prog 63 #[.pointer (some ⟨rb, 0, none⟩), .int .i64 at'] w (DPost B w rb bv sv bs ((pidD bs s.pos at').bind fun x => madeD s.rs x.2 at' ⟨4, x.1, ⟨#[]⟩⟩)) := by
  have HS := Lib.hid hs
  have H := Lib.hid h
  have HO := Lib.hid (⟨hcl, hol⟩ : s.cells ≤ 1024 ∧ s.out.length ≤ 10000000)
  have H1 := dnamed_any B rb bv sv bs s hlen hpos w h hs
  obtain ⟨ao, cap, rfl, hbc, hbm⟩ := h.inp.now.shape
  clear h hs
  cases hh : hostD bs s.pos with
  | bad e p =>
    have HF : Hid ((pidD bs s.pos at').bind (fun x => madeD s.rs x.2 at' ⟨4, x.1, ⟨#[]⟩⟩) = .bad e p) := Lib.hid (by unfold pidD; rw [hh]; rfl)
    have HH := Lib.hid hh
    have HH1 := Lib.hid H1
    clear H1 hh
    go_enter Tryd.func63, Tryd.ntmps63
    go_wp2_with fail
    refine (HH1.out).mono ?_
    rintro r w1 ⟨rfl, h1⟩
    have hE := h1.badE HH.out
    have HE := Lib.hid hE
    obtain ⟨sv1, s1, k1, k2, _, k4⟩ := hE
    have c4 := (Ds.cell k1.rp.blk).2.2.2.2.1
    rw [k2] at c4
    have q1 : ((e : Int) == 0) = false := by simp; omega
    have q2 : ((e : Int) != 0) = true := by simp; omega
    clear h1 k1 k2 k4
    go_wp2_with fail
    refine bodyPost_ret (results_none rfl _ _ _) rfl ⟨rfl, ResP.badI HF.out HE.out⟩
  | ok p =>
    have HH := Lib.hid hh
    have HH1 := Lib.hid H1
    clear H1
    by_cases hsh : bs.length < p + 12
    · have HF : Hid ((pidD bs s.pos at').bind (fun x => madeD s.rs x.2 at' ⟨4, x.1, ⟨#[]⟩⟩) = .bad 62 bs.length) := Lib.hid (by rw [pidD_short hh hsh]; rfl)
      have hple := (hostD_ok hh).2
      clear hh
      go_enter Tryd.func63, Tryd.ntmps63
      go_wp2_with fail
      refine (HH1.out).mono ?_
      rintro r w1 ⟨rfl, h1⟩
      have h2 := h1.okE HH.out
      obtain ⟨c0, c1, _, _, c4, _⟩ := Ds.cell h2.rp.blk
      simp only at c1 c4
      rw [HS.out] at c4
      have HFA : Hid (∀ q, Calls Tryd.prog 33 #[.pointer (some ⟨rb, 0, none⟩), .int .i64 62, .int .i64 bs.length] (w1.drewN q) fun r w' => r = .returned (.tuple #[]) ∧ Dw B w1 rb (.slice ao bs.length cap) sv bs w' sv (Ds.fail { s with pos := p } 62 bs.length)) := Lib.hid (fun q =>
        (dfail_any B rb _ sv bs _ 62 bs.length (w1.drewN q) (h2.rp.below (bel_drewN (Below.refl _ _) q))).mono fun r w' hr => ⟨hr.1, Dw.behind (bel_drewN (Below.refl _ _) q) hr.2⟩)
      have HW2 := Lib.hid h2
      obtain ⟨d, hd⟩ : ∃ d, bs.length - p = d := ⟨_, rfl⟩
      have e2 : IntKind.i64.wrap ((bs.length : Int) - (p : Int)) = (d : Int) := by rw [IntKind.wrap_i64]; omega
      have e3 : (bs.length : Int) - (p : Int) = (d : Int) := by omega
      have q1 : decide ((d : Int) < 12) = true := decide_eq_true (by omega)
      have q2 : decide (d < 12) = true := decide_eq_true (by omega)
      clear h1 h2 hsh hd hple hbc hbm
      go_wp2_with fail
      go_quiet (fail)
      go_wp2_with fail
      refine (HFA.out _).mono ?_
      rintro r w3 ⟨rfl, h3⟩
      have HW3 := Lib.hid h3
      clear h3
      go_wp2_with fail
      refine bodyPost_ret (results_none rfl _ _ _) rfl ⟨rfl, ResP.badI HF.out (DEr.behind HW2.out (.fail HW3.out HS.out (by omega)))⟩
    · have hX := pidD_long (tg := at') hh hsh
      have l1 := beN_lt (rest bs p 4)
      have l2 := beN_lt (rest bs (p + 4) 4)
      rw [rest_len (by omega)] at l1 l2
      obtain ⟨A, hA⟩ : ∃ A, beN (rest bs p 4) = A := ⟨_, rfl⟩
      obtain ⟨S, hS⟩ : ∃ S, beN (rest bs (p + 4) 4) = S := ⟨_, rfl⟩
      rw [hA] at hX l1
      rw [hS] at hX l2
      have HA := Lib.hid hA
      have HSS := Lib.hid hS
      have HX := Lib.hid hX
      have HSH := Lib.hid hsh
      have hple := (hostD_ok hh).2
      clear hh hA hS hX
      go_enter Tryd.func63, Tryd.ntmps63
      go_wp2_with fail
      refine (HH1.out).mono ?_
      rintro r w1 ⟨rfl, h1⟩
      have h2 := h1.okE HH.out
      obtain ⟨c0, c1, _, _, c4, _⟩ := Ds.cell h2.rp.blk
      simp only at c1 c4
      rw [HS.out] at c4
      have HN1 : Hid (∀ q, Calls Tryd.prog 42 #[.pointer (some ⟨rb, 0, none⟩), .int .i64 4] (w1.drewN q) fun r w' => r = .returned (.tuple #[.int .i64 A, .bool true]) ∧ Dw B w1 rb (.slice ao bs.length cap) sv bs w' sv { s with pos := p + 4 }) := Lib.hid (fun q => by
        have := dnum_ok B rb _ sv bs _ 4 hlen hpos (by omega) (w1.drewN q) (h2.rp.below (bel_drewN (Below.refl _ _) q)) (by show p + 4 ≤ _; omega)
        simp only [HA.out] at this
        exact this.mono fun r w' hr => ⟨hr.1, Dw.behind (bel_drewN (Below.refl _ _) q) hr.2⟩)
      have HW2 := Lib.hid h2
      obtain ⟨d, hd⟩ : ∃ d, bs.length - p = d := ⟨_, rfl⟩
      have e2 : IntKind.i64.wrap ((bs.length : Int) - (p : Int)) = (d : Int) := by rw [IntKind.wrap_i64]; omega
      have e3 : (bs.length : Int) - (p : Int) = (d : Int) := by omega
      have q1 : decide ((d : Int) < 12) = false := decide_eq_false (by omega)
      have q2 : decide (d < 12) = false := decide_eq_false (by omega)
      clear h1 h2 hsh hd hple hbc hbm
      go_wp2_with fail
      go_quiet (fail)
      go_wp2_with fail
      refine (HN1.out _).mono ?_
      rintro r w3 ⟨rfl, h3⟩
      have HW3 := Lib.hid (HW2.out.trans h3)
      have HN2 := Lib.hid (dnum_ok B rb _ sv bs _ 4 hlen hpos (by omega) w3 h3.rp (by have := HSH.out; show p + 4 + 4 ≤ _; omega))
      simp only [HSS.out] at HN2
      clear h3 HN1 q1 q2 e2 e3 c0 c1 c4
      go_wp2_with fail
      refine (HN2.out).mono ?_
      rintro r w4 ⟨rfl, h4⟩
      have HW4 := Lib.hid (HW3.out.trans h4)
      have HN3 := Lib.hid (dnum_ok B rb _ sv bs _ 4 hlen hpos (by omega) w4 h4.rp (by have := HSH.out; show p + 4 + 4 + 4 ≤ _; omega))
      clear h4 HN2
      go_wp2_with fail
      refine (HN3.out).mono ?_
      rintro r w5 ⟨rfl, h5⟩
      have HW5 := Lib.hid (HW4.out.trans h5)
      have H7 := Lib.hid (dfail_any B rb _ sv bs _ 1 at' w5 h5.rp)
      have HLF : Hid (∀ (k : Int), Calls Tryd.prog 56 #[.pointer (some ⟨rb, 0, none⟩), .agg #[.int .i64 4, .int .i64 k, .string ⟨#[]⟩], .int .i64 at'] w5 (DPost B w5 rb (.slice ao bs.length cap) sv bs (madeD s.rs (p + 4 + 4 + 4) at' ⟨4, k, ⟨#[]⟩⟩))) := Lib.hid (fun k =>
        dleaf_made B rb _ sv bs _ 4 k ⟨#[]⟩ at' w5 h5.rp HS.out HO.out.1 HO.out.2)
      clear h5 HN3
      by_cases h256 : 256 < S
      · have HF : Hid ((pidD bs s.pos at').bind (fun x => madeD s.rs x.2 at' ⟨4, x.1, ⟨#[]⟩⟩) = .bad 1 at') := Lib.hid (by rw [HX.out, if_pos (.inl h256)]; rfl)
        have t1 : decide ((256 : Int) < (S : Int)) = true := decide_eq_true (by omega)
        have t2 : decide (256 < S) = true := decide_eq_true (by omega)
        clear h256
        go_wp2_with fail
        refine (H7.out).mono ?_
        rintro r w6 ⟨rfl, h6⟩
        have HW6 := Lib.hid h6
        clear h6
        go_wp2_with fail
        refine bodyPost_ret (results_none rfl _ _ _) rfl ⟨rfl, ResP.badI HF.out (DEr.behind HW5.out (.fail HW6.out HS.out (by omega)))⟩
      · have t1 : decide ((256 : Int) < (S : Int)) = false := decide_eq_false (by omega)
        have t2 : decide (256 < S) = false := decide_eq_false (by omega)
        obtain ⟨v, hv⟩ : ∃ v, A + S * 4294967296 = v := ⟨_, rfl⟩
        have v1 : IntKind.i64.wrap ((S : Int) * 4294967296) = (S : Int) * 4294967296 := by rw [IntKind.wrap_i64]; omega
        have v2 : (A : Int) + (S : Int) * 4294967296 = (v : Int) := by omega
        have v3 : IntKind.i64.wrap ((A : Int) + (S : Int) * 4294967296) = (v : Int) := by rw [IntKind.wrap_i64]; omega
        have v4 : IntKind.i64.wrap (v : Int) = (v : Int) := by rw [IntKind.wrap_i64]; omega
        rw [hv] at HX
        by_cases hv1 : v < 1
        · have HF : Hid ((pidD bs s.pos at').bind (fun x => madeD s.rs x.2 at' ⟨4, x.1, ⟨#[]⟩⟩) = .bad 1 at') := Lib.hid (by rw [HX.out, if_pos (.inr (.inl hv1))]; rfl)
          have t3 : decide ((v : Int) < 1) = true := decide_eq_true (by omega)
          have t4 : decide (v < 1) = true := decide_eq_true (by omega)
          go_wp2_with fail
          refine (H7.out).mono ?_
          rintro r w6 ⟨rfl, h6⟩
          have HW6 := Lib.hid h6
          clear h6
          go_wp2_with fail
          refine bodyPost_ret (results_none rfl _ _ _) rfl ⟨rfl, ResP.badI HF.out (DEr.behind HW5.out (.fail HW6.out HS.out (by omega)))⟩
        · have t3 : decide ((v : Int) < 1) = false := decide_eq_false (by omega)
          have t4 : decide (v < 1) = false := decide_eq_false (by omega)
          by_cases hv2 : 1099511627776 < v
          · have HF : Hid ((pidD bs s.pos at').bind (fun x => madeD s.rs x.2 at' ⟨4, x.1, ⟨#[]⟩⟩) = .bad 1 at') := Lib.hid (by rw [HX.out, if_pos (.inr (.inr hv2))]; rfl)
            have t5 : decide ((1099511627776 : Int) < (v : Int)) = true := decide_eq_true (by omega)
            have t6 : decide (1099511627776 < v) = true := decide_eq_true (by omega)
            go_wp2_with fail
            refine (H7.out).mono ?_
            rintro r w6 ⟨rfl, h6⟩
            have HW6 := Lib.hid h6
            clear h6
            go_wp2_with fail
            refine bodyPost_ret (results_none rfl _ _ _) rfl ⟨rfl, ResP.badI HF.out (DEr.behind HW5.out (.fail HW6.out HS.out (by omega)))⟩
          · have HF : Hid ((pidD bs s.pos at').bind (fun x => madeD s.rs x.2 at' ⟨4, x.1, ⟨#[]⟩⟩) = madeD s.rs (p + 4 + 4 + 4) at' ⟨4, (v : Int), ⟨#[]⟩⟩) := Lib.hid (by rw [HX.out, if_neg (by omega)]; rfl)
            have t5 : decide ((1099511627776 : Int) < (v : Int)) = false := decide_eq_false (by omega)
            have t6 : decide (1099511627776 < v) = false := decide_eq_false (by omega)
            have H8 := Lib.hid (HLF.out (v : Int))
            go_wp2_with fail
            refine (H8.out).mono ?_
            rintro r w6 h6
            obtain rfl := h6.1
            have HW6 := Lib.hid h6
            clear h6
            go_wp2_with fail
            go_end0
            rw [HF.out]
            exact DPost.behind HW5.out HW6.out

set_option maxHeartbeats 3200000 in
set_option maxRecDepth 100000 in
theorem dbin_any (B rb : Nat) (bv sv : Value) (bs : List UInt8) (s : Ds) (at' : Nat) (hlen : bs.length ≤ 1048576) (hpos : 1 ≤ bs.length) (w : World) (h : Dp B w rb bv sv bs s) (hs : s.why = 0) (hcl : s.cells ≤ 1024) (hol : s.out.length ≤ 10000000) :
    Calls Tryd.prog 62 #[.pointer (some ⟨rb, 0, none⟩), .int .i64 at'] w (DPost B w rb bv sv bs ((numD bs s.pos 4).bind fun n => (takeD bs (s.pos + 4) n).bind fun l => if 1024 < n then .bad 4 at' else madeD s.rs (s.pos + 4 + n) at' ⟨8, 0, ⟨l.toArray⟩⟩)) := by
  have HS := Lib.hid hs
  have HO := Lib.hid (⟨hcl, hol⟩ : s.cells ≤ 1024 ∧ s.out.length ≤ 10000000)
  have H1 := dnum_any B rb bv sv bs s 4 hlen hpos (by omega) w h hs
  obtain ⟨X, hX⟩ : ∃ X, ((numD bs s.pos 4).bind fun n => (takeD bs (s.pos + 4) n).bind fun l => if 1024 < n then Res.bad 4 at' else madeD s.rs (s.pos + 4 + n) at' ⟨8, 0, ⟨l.toArray⟩⟩) = X := ⟨_, rfl⟩
  have HX := Lib.hid hX
  rw [hX]
  clear h hs hX
  cases hn : numD bs s.pos 4 with
  | bad e p =>
    have HF : Hid (X = .bad e p) := Lib.hid (by rw [← HX.out, hn]; rfl)
    have HH1 := Lib.hid (callsBad H1 hn)
    clear H1 hn
    go_enter Tryd.func62, Tryd.ntmps62
    go_wp2_with fail
    refine (HH1.out).mono ?_
    rintro r w1 ⟨rfl, hE⟩
    have HE := Lib.hid hE
    clear hE
    go_wp2_with fail
    refine bodyPost_ret (results_none rfl _ _ _) rfl ⟨rfl, ResP.badI HF.out HE.out⟩
  | ok n =>
    have HH1 := Lib.hid (callsOk H1 hn)
    have hnb := num_lt' hn
    cases hl : takeD bs (s.pos + 4) n with
    | bad e p =>
      have HF : Hid (X = .bad e p) := Lib.hid (by rw [← HX.out, hn]; simp only [Res.bind]; rw [hl])
      have HL := Lib.hid hl
      clear H1 hn hl
      go_enter Tryd.func62, Tryd.ntmps62
      go_wp2_with fail
      refine (HH1.out).mono ?_
      rintro r w1 ⟨rfl, h1⟩
      have HW1 := Lib.hid h1
      have H2 := Lib.hid (callsBad (dtake_any B rb bv sv bs _ n hlen hpos (by omega) w1 h1.rp HS.out) HL.out)
      clear h1
      go_wp2_with fail
      refine (H2.out).mono ?_
      rintro r w2 ⟨rfl, hE⟩
      have HE := Lib.hid (DEr.behind HW1.out hE)
      clear hE
      go_wp2_with fail
      refine bodyPost_ret (results_none rfl _ _ _) rfl ⟨rfl, ResP.badI HF.out HE.out⟩
    | ok l =>
      have HF : Hid (X = if 1024 < n then Res.bad 4 at' else madeD s.rs (s.pos + 4 + n) at' ⟨8, 0, ⟨l.toArray⟩⟩) := Lib.hid (by rw [← HX.out, hn]; simp only [Res.bind]; rw [hl])
      have HL := Lib.hid hl
      clear H1 hn hl
      go_enter Tryd.func62, Tryd.ntmps62
      go_wp2_with fail
      refine (HH1.out).mono ?_
      rintro r w1 ⟨rfl, h1⟩
      have HW1 := Lib.hid h1
      have H2 := Lib.hid (callsOk (dtake_any B rb bv sv bs _ n hlen hpos (by omega) w1 h1.rp HS.out) HL.out)
      clear h1
      go_wp2_with fail
      refine (H2.out).mono ?_
      rintro r w2 ⟨hll, ⟨g, off, cap, rfl, hrd⟩, h2⟩
      have HW2 := Lib.hid (HW1.out.trans h2)
      have hcv := run_str hrd.now hll
      by_cases hb : 1024 < n
      · have HFB : Hid (X = .bad 4 at') := Lib.hid (by rw [HF.out, if_pos hb])
        have t1 : decide ((1024 : Int) < (n : Int)) = true := decide_eq_true (by omega)
        have t2 : decide (1024 < n) = true := decide_eq_true (by omega)
        have H3 := Lib.hid (dfail_any B rb bv sv bs _ 4 at' w2 h2.rp)
        clear h2 hrd hcv hb
        go_wp2_with fail
        refine (H3.out).mono ?_
        rintro r w6 ⟨rfl, h6⟩
        have HW6 := Lib.hid h6
        clear h6
        go_wp2_with fail
        refine bodyPost_ret (results_none rfl _ _ _) rfl ⟨rfl, ResP.badI HFB.out (DEr.behind HW2.out (.fail HW6.out HS.out (by omega)))⟩
      · have HFB : Hid (X = madeD s.rs (s.pos + 4 + n) at' ⟨8, 0, ⟨l.toArray⟩⟩) := Lib.hid (by rw [HF.out, if_neg hb])
        have t1 : decide ((1024 : Int) < (n : Int)) = false := decide_eq_false (by omega)
        have t2 : decide (1024 < n) = false := decide_eq_false (by omega)
        obtain ⟨str, hstr⟩ : ∃ str : ByteArray, (⟨l.toArray⟩ : ByteArray) = str := ⟨_, rfl⟩
        rw [hstr] at hcv HFB
        have H3 := Lib.hid (dleaf_made B rb bv sv bs _ 8 0 str at' w2 h2.rp HS.out HO.out.1 HO.out.2)
        clear h2 hrd hb hstr
        go_wp2_with fail
        refine (H3.out).mono ?_
        rintro r w6 h6
        obtain rfl := h6.1
        have HW6 := Lib.hid h6
        clear h6
        go_wp2_with fail
        go_end0
        rw [HFB.out]
        exact DPost.behind HW2.out ⟨rfl, HW6.out.2⟩
end Go.Proofs.YtkhjdcnlpablkaaDoor

/-! The document's reader: a reference. -/
namespace Go.Proofs.YtkhjdcnlpablkaaDoor
open Go.RowKit
open Go.Lib (byteCells)

theorem refD_short {bs : List UInt8} {pos k p tg : Nat} (hk : numD bs pos 2 = .ok k) (hh : hostD bs (pos + 2) = .ok p) (h : bs.length < p + (4 + 4 * k)) : refD bs pos tg = .bad 62 bs.length := by
  unfold refD
  rw [hk]
  simp only [Res.bind]
  rw [hh]
  simp only
  by_cases h1 : bs.length < p + 4
  · have : numD bs p 4 = .bad 62 bs.length := by unfold numD; rw [if_pos h1]
    rw [this]
  · have : numD bs p 4 = .ok (beN (rest bs p 4)) := by unfold numD; rw [if_neg h1]
    rw [this]
    have h2 : takeD bs (p + 4) (4 * k) = .bad 62 bs.length := by unfold takeD; rw [if_pos (by omega)]
    simp only
    rw [h2]
theorem refD_long {bs b : List UInt8} {pos k p tg : Nat} (hk : numD bs pos 2 = .ok k) (hh : hostD bs (pos + 2) = .ok p) (h : takeD bs p (4 + 4 * k) = .ok b) : refD bs pos tg =
    match refV (b.drop 4) k with
    | none => .bad 1 tg
    | some n => .ok ((n : Int), p + (4 + 4 * k)) := by
  obtain ⟨h1, h2⟩ := takeD_ok h
  have e1 : numD bs p 4 = .ok (beN (rest bs p 4)) := by unfold numD; rw [if_neg (by omega)]
  have e2 : takeD bs (p + 4) (4 * k) = .ok (b.drop 4) := by
    unfold takeD
    rw [if_neg (by omega)]
    congr 1
    rw [h2]
    unfold rest
    rw [List.drop_take, List.drop_drop]
    congr 1
    omega
  unfold refD
  rw [hk]
  simp only [Res.bind]
  rw [hh]
  simp only
  rw [e1]
  simp only
  rw [e2]
  simp only
  rw [Nat.add_assoc]
  cases refV (b.drop 4) k <;> rfl

theorem DOk.back {B rb : Nat} {w w1 w2 : World} {bv sv : Value} {bs : List UInt8} {x : Rs} (hb : Below w.heap.size w w1) (k : DOk B w1 rb bv sv bs w2 x) : DOk B w rb bv sv bs w2 x := by
  obtain ⟨sv2, s2, h1, h2⟩ := k
  exact ⟨sv2, s2, Dw.behind hb h1, h2⟩
theorem DPost.back {B rb : Nat} {w w1 w2 : World} {bv sv : Value} {bs : List UInt8} {X : Res (Rs × Nat × Bool)} {r : Ending} (hb : Below w.heap.size w w1) (k : DPost B w1 rb bv sv bs X r w2) : DPost B w rb bv sv bs X r w2 := by
  refine ⟨k.1, ?_⟩
  cases X with
  | ok x => exact DOk.back hb k.2
  | bad e p => exact DEr.back hb k.2
/-- The four bytes of a word. -/
theorem ref_word {b : List UInt8} {k j : Nat} (hb : b.length = 4 + 4 * k) (hj : j < k) : ∃ a0 a1 a2 a3 : UInt8, b[4 + 4 * j]? = some a0 ∧ b[4 + 4 * j + 1]? = some a1 ∧ b[4 + 4 * j + 2]? = some a2 ∧ b[4 + 4 * j + 3]? = some a3 ∧
    refW (b.drop 4) j = a0.toNat * 16777216 + a1.toNat * 65536 + a2.toNat * 256 + a3.toNat := by
  have g : ∀ (i : Nat) (hi : i < 4), b[4 + 4 * j + i]? = some (b[4 + 4 * j + i]'(by omega)) := fun i hi => List.getElem?_eq_getElem (by omega)
  refine ⟨_, _, _, _, g 0 (by omega), g 1 (by omega), g 2 (by omega), g 3 (by omega), ?_⟩
  have h4 : ((b.drop 4).drop (4 * j)).take 4 = [b[4 + 4 * j]'(by omega), b[4 + 4 * j + 1]'(by omega), b[4 + 4 * j + 2]'(by omega), b[4 + 4 * j + 3]'(by omega)] := by
    apply List.ext_getElem?
    intro i
    by_cases hi : i < 4
    · rw [List.getElem?_take_of_lt hi, List.getElem?_drop, List.getElem?_drop, show 4 + (4 * j + i) = 4 + 4 * j + i by omega, g i hi]
      match i, hi with
      | 0, _ => rfl
      | 1, _ => rfl
      | 2, _ => rfl
      | 3, _ => rfl
    · rw [List.getElem?_eq_none (by rw [List.length_take]; omega), List.getElem?_eq_none (by simp; omega)]
  unfold refW rest
  rw [h4]
  simp [beN]
  omega

set_option maxHeartbeats 6400000 in
set_option maxRecDepth 100000 in
theorem dref_any (B rb : Nat) (bv sv : Value) (bs : List UInt8) (s : Ds) (at' : Nat) (hlen : bs.length ≤ 1048576) (hpos : 1 ≤ bs.length) (w : World) (h : Dp B w rb bv sv bs s) (hs : s.why = 0) (hcl : s.cells ≤ 1024) (hol : s.out.length ≤ 10000000) :
    Calls Tryd.prog 64 #[.pointer (some ⟨rb, 0, none⟩), .int .i64 at'] w (DPost B w rb bv sv bs ((refD bs s.pos at').bind fun x => madeD s.rs x.2 at' ⟨3, x.1, ⟨#[]⟩⟩)) := by
  have HS := Lib.hid hs
  have H := Lib.hid h
  have HO := Lib.hid (⟨hcl, hol⟩ : s.cells ≤ 1024 ∧ s.out.length ≤ 10000000)
  have H1 := dnum_any B rb bv sv bs s 2 hlen hpos (by omega) w h hs
  obtain ⟨X, hX⟩ : ∃ X, ((refD bs s.pos at').bind fun x => madeD s.rs x.2 at' ⟨3, x.1, ⟨#[]⟩⟩) = X := ⟨_, rfl⟩
  have HX := Lib.hid hX
  rw [hX]
  clear h hs hX
  cases hk : numD bs s.pos 2 with
  | bad e p =>
    have HF : Hid (X = .bad e p) := Lib.hid (by rw [← HX.out]; unfold refD; rw [hk]; rfl)
    have HH1 := Lib.hid (callsBad H1 hk)
    clear H1 hk
    go_enter Tryd.func64, Tryd.ntmps64
    go_wp2_with fail
    refine (HH1.out).mono ?_
    rintro r w1 ⟨rfl, hE⟩
    have HE := Lib.hid hE
    obtain ⟨sv1, s1, k1, k2, _, k4⟩ := hE
    have c4 := (Ds.cell k1.rp.blk).2.2.2.2.1
    rw [k2] at c4
    have q1 : ((e : Int) == 0) = false := by simp; omega
    have q2 : ((e : Int) != 0) = true := by simp; omega
    clear k1 k2 k4
    go_wp2_with fail
    refine bodyPost_ret (results_none rfl _ _ _) rfl ⟨rfl, ResP.badI HF.out HE.out⟩
  | ok k =>
    have HH1 := Lib.hid (callsOk H1 hk)
    have hkb := num_lt' hk
    cases hh : hostD bs (s.pos + 2) with
    | bad e p =>
      have HF : Hid (X = .bad e p) := Lib.hid (by rw [← HX.out]; unfold refD; rw [hk]; simp only [Res.bind]; rw [hh])
      have HH := Lib.hid hh
      clear H1 hk hh
      go_enter Tryd.func64, Tryd.ntmps64
      go_wp2_with fail
      refine (HH1.out).mono ?_
      rintro r w1 ⟨rfl, h1⟩
      have HW1 := Lib.hid h1
      have H2 := Lib.hid (dnamed_any B rb bv sv bs _ hlen hpos w1 h1.rp HS.out)
      clear h1
      go_wp2_with fail
      refine (H2.out).mono ?_
      rintro r w2 ⟨rfl, h2⟩
      have hE := h2.badE HH.out
      have HE := Lib.hid (DEr.behind HW1.out hE)
      obtain ⟨sv1, s1, k1, k2, _, k4⟩ := hE
      have c4 := (Ds.cell k1.rp.blk).2.2.2.2.1
      rw [k2] at c4
      have q1 : ((e : Int) == 0) = false := by simp; omega
      have q2 : ((e : Int) != 0) = true := by simp; omega
      clear h2 k1 k2 k4
      go_wp2_with fail
      refine bodyPost_ret (results_none rfl _ _ _) rfl ⟨rfl, ResP.badI HF.out HE.out⟩
    | ok p =>
      have HH := Lib.hid hh
      obtain ⟨m4, hm4⟩ : ∃ m4, 4 * k = m4 := ⟨_, rfl⟩
      obtain ⟨m8, hm8⟩ : ∃ m8, 4 + m4 = m8 := ⟨_, rfl⟩
      have k5 : (4 : Int) * (k : Int) = (m4 : Int) := by omega
      have k4 : IntKind.i64.wrap (m4 : Int) = (m4 : Int) := by rw [IntKind.wrap_i64]; omega
      have k6 : (4 : Int) + (m4 : Int) = (m8 : Int) := by omega
      have k7 : IntKind.i64.wrap (m8 : Int) = (m8 : Int) := by rw [IntKind.wrap_i64]; omega
      have hmm : 4 + 4 * k = m8 := by omega
      have hm8b : m8 ≤ 262144 := by omega
      have HMM := Lib.hid (⟨hm4, hm8⟩ : 4 * k = m4 ∧ 4 + m4 = m8)
      cases hl : takeD bs p m8 with
      | bad e q =>
        have HF : Hid (X = .bad 62 bs.length) := Lib.hid (by
          have : bs.length < p + m8 := by
            unfold takeD at hl
            split at hl
            · assumption
            · cases hl
          rw [← HX.out, refD_short hk hh (by omega)]; rfl)
        have he : takeD bs p m8 = .bad 62 bs.length := by
          unfold takeD at hl ⊢
          split at hl
          · rw [if_pos (by assumption)]
          · cases hl
        have HL := Lib.hid he
        clear H1 hk hh hl he hm4 hm8 hmm
        go_enter Tryd.func64, Tryd.ntmps64
        go_wp2_with fail
        refine (HH1.out).mono ?_
        rintro r w1 ⟨rfl, h1⟩
        have HW1 := Lib.hid h1
        have H2 := Lib.hid (dnamed_any B rb bv sv bs _ hlen hpos w1 h1.rp HS.out)
        clear h1
        go_wp2_with fail
        refine (H2.out).mono ?_
        rintro r w2 ⟨rfl, h2⟩
        replace h2 := h2.okE HH.out
        have c4 := (Ds.cell h2.rp.blk).2.2.2.2.1
        simp only at c4
        rw [HS.out] at c4
        have HW2 := Lib.hid (HW1.out.trans h2)
        have H3 := Lib.hid (callsBad (dtake_any B rb bv sv bs _ m8 hlen hpos (by omega) w2 h2.rp HS.out) HL.out)
        clear h2
        go_wp2_with fail
        refine (H3.out).mono ?_
        rintro r w3 ⟨rfl, hE⟩
        have HE := Lib.hid (DEr.behind HW2.out hE)
        clear hE
        go_wp2_with fail
        refine bodyPost_ret (results_none rfl _ _ _) rfl ⟨rfl, ResP.badI HF.out HE.out⟩
      | ok b =>
        have HF : Hid (X = (match refV (b.drop 4) k with | none => Res.bad 1 at' | some n => .ok ((n : Int), p + m8)).bind fun x => madeD s.rs x.2 at' ⟨3, x.1, ⟨#[]⟩⟩) := Lib.hid (by rw [← HX.out, refD_long hk hh (by rw [hmm]; exact hl), hmm])
        have HL := Lib.hid hl
        have hkl : m8 ≤ 1048576 := by have := (takeD_ok hl).1; omega
        clear H1 hk hh hl hm4 hm8 hmm
        go_enter Tryd.func64, Tryd.ntmps64
        go_wp2_with fail
        refine (HH1.out).mono ?_
        rintro r w1 ⟨rfl, h1⟩
        have HW1 := Lib.hid h1
        have H2 := Lib.hid (dnamed_any B rb bv sv bs _ hlen hpos w1 h1.rp HS.out)
        clear h1
        go_wp2_with fail
        refine (H2.out).mono ?_
        rintro r w2 ⟨rfl, h2⟩
        replace h2 := h2.okE HH.out
        have c4 := (Ds.cell h2.rp.blk).2.2.2.2.1
        simp only at c4
        rw [HS.out] at c4
        have HW2 := Lib.hid (HW1.out.trans h2)
        have H3 := Lib.hid (callsOk (dtake_any B rb bv sv bs _ m8 hlen hpos (by omega) w2 h2.rp HS.out) HL.out)
        clear h2
        go_wp2_with fail
        refine (H3.out).mono ?_
        rintro r w3 ⟨hbl, ⟨g, off, cap, rfl, hrd⟩, h3⟩
        have HBL := Lib.hid hbl
        have HRD := Lib.hid hrd
        have HW3 := Lib.hid (HW2.out.trans h3)
        have HR3 := Lib.hid h3.rp
        obtain ⟨_, _, _, hrv, hcap, hcapm, _⟩ := hrd.now.at (by omega)
        simp at hrv
        obtain ⟨⟨rfl, rfl⟩, rfl⟩ := hrv
        unfold maxLen at hcapm
        clear h3 hrd c4 hbl
        have H7 : Hid (∀ W, Below w3.heap.size w3 W → Calls Tryd.prog 33 #[.pointer (some ⟨rb, 0, none⟩), .int .i64 1, .int .i64 at'] W fun r w' => r = .returned (.tuple #[]) ∧ DEr B w rb bv sv bs 1 at' w') := Lib.hid (fun W hW =>
          (dfail_any B rb bv sv bs _ 1 at' W (HR3.out.below hW)).mono fun r w' hr => ⟨hr.1, DEr.behind HW3.out (DEr.back hW (.fail hr.2 HS.out (by omega)))⟩)
        have HLF : Hid (∀ W, Below w3.heap.size w3 W → ∀ (v : Int), Calls Tryd.prog 56 #[.pointer (some ⟨rb, 0, none⟩), .agg #[.int .i64 3, .int .i64 v, .string ⟨#[]⟩], .int .i64 at'] W (DPost B w rb bv sv bs (madeD s.rs (p + m8) at' ⟨3, v, ⟨#[]⟩⟩))) := Lib.hid (fun W hW v =>
          (dleaf_made B rb bv sv bs _ 3 v ⟨#[]⟩ at' W (HR3.out.below hW) HS.out HO.out.1 HO.out.2).mono fun r w' hr => DPost.behind HW3.out (DPost.back hW hr))
        by_cases hk1 : k < 1
        · obtain rfl : k = 0 := by omega
          have HSP := Lib.hid (RefI.start (b.drop 4) 0)
          have HFB : Hid (X = .bad 1 at') := Lib.hid (by rw [HF.out, HSP.out.1 rfl]; rfl)
          have H7b := Lib.hid (H7.out w3 (Below.refl _ _))
          go_wp2_with fail
          go_loopg [7, 8, 9, 10] 0 (fun g s7 s8 s9 _ wr => s7 = .int .i64 0 ∧ s8 = .bool true ∧ s9 = .int .i64 0 ∧ wr = w3)
          case atStart => exact ⟨rfl, rfl, rfl, rfl⟩
          case round =>
            obtain ⟨rfl, rfl, rfl, rfl⟩ := hrel
            go_wp2_with fail
            refine (H7b.out).mono ?_
            rintro r w5 ⟨rfl, hE⟩
            have HE := Lib.hid hE
            clear hE
            go_wp2_with fail
            refine bodyPost_ret (results_none rfl _ _ _) rfl ⟨rfl, ResP.badI HFB.out HE.out⟩
        · have hk1' : decide ((k : Int) < 1) = false := by simp; omega
          obtain ⟨sp, hsp⟩ : ∃ sp, decide (5 < (k : Int)) = sp := ⟨_, rfl⟩
          have HSP := Lib.hid (RefI.start (b.drop 4) k)
          rw [show (decide (k < 1) || decide (5 < k)) = sp by rw [← hsp]; rw [show decide (k < 1) = false by simp; omega, Bool.false_or]; congr 1; simp; try omega] at HSP
          go_wp2_with fail
          go_loopg [7, 8, 9, 10] k (fun g s7 s8 s9 _ wr => ∃ (j : Nat) (n : Int) (sp : Bool), s7 = .int .i64 n ∧ s8 = .bool sp ∧ s9 = .int .i64 j ∧ j + g = k ∧ Below w3.heap.size w3 wr ∧ Hid (RefI (b.drop 4) k j sp n))
          case atStart => exact ⟨0, 0, sp, rfl, rfl, rfl, by omega, Below.refl _ _, HSP⟩
          case round =>
            clear HSP hsp
            obtain ⟨j, n, sp, rfl, rfl, rfl, hjg, hbe, HI⟩ := hrel
            have HBE := Lib.hid hbe
            have H7b := Lib.hid (H7.out wr hbe)
            cases sp with
            | true =>
              have HFB : Hid (X = .bad 1 at') := Lib.hid (by rw [HF.out, HI.out.1 rfl]; rfl)
              clear hbe
              cases gk with
              | zero =>
                have qj : decide ((j : Int) < (k : Int)) = false := by simp; omega
                go_wp2_with fail
                refine (H7b.out).mono ?_
                rintro r w5 ⟨rfl, hE⟩
                have HE := Lib.hid hE
                clear hE
                go_wp2_with fail
                refine bodyPost_ret (results_none rfl _ _ _) rfl ⟨rfl, ResP.badI HFB.out HE.out⟩
              | succ g =>
                have qj : decide ((j : Int) < (k : Int)) = true := by simp; omega
                go_wp2_with fail
                refine (H7b.out).mono ?_
                rintro r w5 ⟨rfl, hE⟩
                have HE := Lib.hid hE
                clear hE
                go_wp2_with fail
                refine bodyPost_ret (results_none rfl _ _ _) rfl ⟨rfl, ResP.badI HFB.out HE.out⟩
            | false =>
              cases gk with
              | zero =>
                obtain rfl : j = k := by omega
                have hlast := HI.out.last
                clear hbe
                by_cases hn1 : n < 1
                · have HFB : Hid (X = .bad 1 at') := Lib.hid (by rw [HF.out, hlast, if_pos (.inl hn1)]; rfl)
                  have t1 : decide (n < 1) = true := decide_eq_true hn1
                  clear hlast
                  go_wp2_with fail
                  refine (H7b.out).mono ?_
                  rintro r w5 ⟨rfl, hE⟩
                  have HE := Lib.hid hE
                  clear hE
                  go_wp2_with fail
                  refine bodyPost_ret (results_none rfl _ _ _) rfl ⟨rfl, ResP.badI HFB.out HE.out⟩
                · have t1 : decide (n < 1) = false := decide_eq_false hn1
                  by_cases hn2 : 281474976710656 < n
                  · have HFB : Hid (X = .bad 1 at') := Lib.hid (by rw [HF.out, hlast, if_pos (.inr hn2)]; rfl)
                    have t2 : decide (281474976710656 < n) = true := decide_eq_true hn2
                    clear hlast
                    go_wp2_with fail
                    refine (H7b.out).mono ?_
                    rintro r w5 ⟨rfl, hE⟩
                    have HE := Lib.hid hE
                    clear hE
                    go_wp2_with fail
                    refine bodyPost_ret (results_none rfl _ _ _) rfl ⟨rfl, ResP.badI HFB.out HE.out⟩
                  · have HFB : Hid (X = madeD s.rs (p + m8) at' ⟨3, n, ⟨#[]⟩⟩) := Lib.hid (by
                      rw [HF.out, hlast, if_neg (by omega)]
                      show madeD s.rs (p + m8) at' ⟨3, ((n.toNat : Nat) : Int), ⟨#[]⟩⟩ = _
                      rw [show ((n.toNat : Nat) : Int) = n by omega])
                    have t2 : decide (281474976710656 < n) = false := decide_eq_false hn2
                    have H8 := Lib.hid (HLF.out wr HBE.out n)
                    clear hlast
                    go_wp2_with fail
                    refine (H8.out).mono ?_
                    rintro r w5 h5
                    obtain rfl := h5.1
                    have HP := Lib.hid h5
                    clear h5
                    go_wp2_with fail
                    go_end0
                    rw [HFB.out]
                    exact HP.out
              | succ g =>
                have hjk : j < k := by omega
                have qj : decide ((j : Int) < (k : Int)) = true := by simp; omega
                obtain ⟨a0, a1, a2, a3, b0, b1, b2, b3, hw⟩ := ref_word (b := b) (k := k) (j := j) (by have := HBL.out; have := HMM.out; omega) hjk
                have hrd := (HRD.out.step (hbe.mono HW3.out.rp.Ble)).now
                have y0 := cells_byte hrd b0 HBL.out
                have y1 := cells_byte hrd b1 HBL.out
                have y2 := cells_byte hrd b2 HBL.out
                have y3 := cells_byte hrd b3 HBL.out
                have u0 := UInt8.toNat_lt a0
                have u1 := UInt8.toNat_lt a1
                have u2 := UInt8.toNat_lt a2
                have u3 := UInt8.toNat_lt a3
                obtain ⟨z0, hz0⟩ : ∃ z, a0.toNat = z := ⟨_, rfl⟩
                obtain ⟨z1, hz1⟩ : ∃ z, a1.toNat = z := ⟨_, rfl⟩
                obtain ⟨z2, hz2⟩ : ∃ z, a2.toNat = z := ⟨_, rfl⟩
                obtain ⟨z3, hz3⟩ : ∃ z, a3.toNat = z := ⟨_, rfl⟩
                rw [hz0] at y0 u0 hw
                rw [hz1] at y1 u1 hw
                rw [hz2] at y2 u2 hw
                rw [hz3] at y3 u3 hw
                obtain ⟨i4, hi4⟩ : ∃ i4, 4 * j = i4 := ⟨_, rfl⟩
                rw [hi4] at y0 y1 y2 y3
                have hij : (4 : Int) * (j : Int) = (i4 : Int) := by omega
                have hi8 : i4 + 8 ≤ m8 := by have := HMM.out; omega
                obtain ⟨i0, e0⟩ : ∃ i0, 4 + i4 = i0 := ⟨_, rfl⟩
                obtain ⟨i1, e1⟩ : ∃ i1, 4 + i4 + 1 = i1 := ⟨_, rfl⟩
                obtain ⟨i2, e2⟩ : ∃ i2, 4 + i4 + 2 = i2 := ⟨_, rfl⟩
                obtain ⟨i3, e3⟩ : ∃ i3, 4 + i4 + 3 = i3 := ⟨_, rfl⟩
                rw [e0] at y0
                rw [e1] at y1
                rw [e2] at y2
                rw [e3] at y3
                have x0 : (4 : Int) + (i4 : Int) = (i0 : Int) := by omega
                have x1 : (5 : Int) + (i4 : Int) = (i1 : Int) := by omega
                have x2 : (6 : Int) + (i4 : Int) = (i2 : Int) := by omega
                have x3 : (7 : Int) + (i4 : Int) = (i3 : Int) := by omega
                have l0 : (i0 : Int) < (m8 : Int) := by omega
                have l1 : (i1 : Int) < (m8 : Int) := by omega
                have l2 : (i2 : Int) < (m8 : Int) := by omega
                have l3 : (i3 : Int) < (m8 : Int) := by omega
                have l0' : i0 < m8 := by omega
                have l1' : i1 < m8 := by omega
                have l2' : i2 < m8 := by omega
                have l3' : i3 < m8 := by omega
                have hm8c : m8 ≤ 1048576 := hkl
                have HW := Lib.hid hw
                clear hrd b0 b1 b2 b3 hz0 hz1 hz2 hz3 hw hi4 hbe e0 e1 e2 e3 hi8
                go_wp2_with fail
                go_quiet (fail)
                have hbe2 : Below w3.heap.size w3 (wr.drewN nq) := bel_drewN HBE.out nq
                have HBE2 := Lib.hid hbe2
                obtain ⟨x, hx⟩ : ∃ x, refW (b.drop 4) j = x := ⟨_, rfl⟩
                have hw := HW.out
                rw [hx] at hw
                have hxz : (z0 : Int) * 16777216 + (z1 : Int) * 65536 + (z2 : Int) * 256 + (z3 : Int) = (x : Int) := by omega
                rw [hxz]
                have hxb : x < 4294967296 := by omega
                have HXX := Lib.hid hx
                generalize wr.drewN nq = wq at hbe2 HBE2 ⊢
                clear y0 y1 y2 y3 u0 u1 u2 u3 x0 x1 x2 x3 l0 l1 l2 l3 l0' l1' l2' l3' hij hw hxz hx hbe2 HW HBE H7b
                by_cases hj0 : j = 0
                · subst hj0
                  have hf := HI.out.first
                  rw [HXX.out] at hf
                  have HF1 := Lib.hid hf
                  clear hf
                  go_wp2_with fail
                  go_roundg g
                  case measure => omega
                  case rel => exact ⟨1, x, false, rfl, rfl, rfl, by omega, HBE2.out, HF1⟩
                · by_cases hj1 : j = 1
                  · subst hj1
                    have hn4 : n < 4294967296 ∧ 0 ≤ n := by
                      have h3 := (HI.out.2 rfl).2.2.1
                      rw [if_neg (by omega)] at h3
                      have h4 : refX (b.drop 4) 1 = 0 := if_pos (by omega)
                      rw [h4] at h3
                      have h5 := refW_lt (b.drop 4) 0 (by rw [List.length_drop, HBL.out]; omega)
                      omega
                    obtain ⟨y, hy⟩ : ∃ y, IntKind.i64.wrap (n + IntKind.i64.wrap ((x : Int) * 4294967296)) = y := ⟨_, rfl⟩
                    have hys : x ≤ 65536 → y = n + (x : Int) * 4294967296 := by
                      intro hx6
                      rw [← hy, IntKind.wrap_i64, IntKind.wrap_i64]
                      omega
                    have hf := HI.out.second (m := y) (by omega) (by rw [HXX.out]; exact hys)
                    rw [HXX.out] at hf
                    obtain ⟨sq, hsq⟩ : ∃ sq, decide ((65536 : Int) < (x : Int)) = sq := ⟨_, rfl⟩
                    have hsq' : decide (65536 < x) = sq := by rw [← hsq]; exact decide_eq_decide.2 (by omega)
                    rw [hsq'] at hf
                    have HF1 := Lib.hid hf
                    clear hf hys hj0
                    go_wp2_with fail
                    go_roundg g
                    case measure => omega
                    case rel => exact ⟨2, y, sq, by rw [← hy, w64, w64], rfl, rfl, by omega, HBE2.out, HF1⟩
                  · have hf := HI.out.more (by omega) hjk
                    rw [HXX.out] at hf
                    obtain ⟨sq, hsq⟩ : ∃ sq, decide (x ≠ 0) = sq := ⟨_, rfl⟩
                    rw [hsq] at hf
                    have hsq' : ((x : Int) != 0) = sq := by rw [← hsq]; by_cases hx0 : x = 0 <;> simp [hx0]
                    have HF1 := Lib.hid hf
                    have r0 : ((j : Int) == 0) = false := by simp; omega
                    have r1 : ((j : Int) == 1) = false := by simp; omega
                    clear hf
                    go_wp2_with fail
                    go_roundg g
                    case measure => omega
                    case rel => exact ⟨j + 1, n, sq, rfl, rfl, by go_num, by omega, HBE2.out, HF1⟩
end Go.Proofs.YtkhjdcnlpablkaaDoor

/-! The document's reader: a list of bytes. -/
namespace Go.Proofs.YtkhjdcnlpablkaaDoor
open Go.RowKit
open Go.Lib (byteCells)

/-- APPEND of cells that are built on the spot, to what the document's reader gathers. -/
theorem wpList_dcells {w : World} {ops : Array Oper} {rest : List Oper} {o : Oper} {a : Act} {Q : Exit → Act → World → Prop} (s x : Operand) {B rb : Nat} {bv sv : Value} {bs : List UInt8} {st : Ds} (news : List Ce) (vals : List Value) (m b : Nat) (hb : b = w.heap.size)
    (hgd : o.guard = none) (ho : o.op = .call { callee := .builtin .append, args := #[s, x], argTypes := #[24, 24] })
    (hs : a.eval s = sv) (hx : a.eval x = .slice (some ⟨b, 0, none⟩) m m) (h : Dp B w rb bv sv bs st) (hcs : vals = cvs news) (hm : news.length = m) (hl : st.out.length + m ≤ 100000000)
    (k : ∀ ao cap w', w'.cell? ⟨rb, 2, none⟩ = some sv → w'.frozen? ⟨rb, 2, none⟩ = false →
      Dw B w rb bv sv bs (w'.setCell ⟨rb, 2, none⟩ (.slice ao (st.out.length + m) cap)) (.slice ao (st.out.length + m) cap) { st with out := st.out ++ news } → wpList Tryd.prog ops Q rest (a.put o.dst (.slice ao (st.out.length + m) cap)) w') :
    wpList Tryd.prog ops Q (o :: rest) a (w.alloc (.cells vals.toArray 60)) := by
  obtain ⟨i0, hinf, hz0, hz1, hz2⟩ := info_parts Tryd.info60
  subst hcs hm hb
  have hA := h.below (bel_box w (.cells (cvs news).toArray 60))
  refine wpList_append_sl hgd s x 24 ho 60 i0 (.agg #[.int .i64 0, .int .i64 0, .string ByteArray.empty]) 3 32 Tryd.underlying24 hinf hz0 hz1 hz2 rfl (by decide) sv st.out.length (cvs st.out) hs hA.sl ⟨w.heap.size, 0, none⟩ news.length news.length (cvs news) hx
    (cvs_len news) (cells_new w _ 60) (cvs_one' news) (by unfold maxLen; omega) (by omega) ?_
  intro v' w' hsl hfr hown
  obtain ⟨ao, cap, rfl, _, _⟩ := hsl.shape
  have hq := hA.app (c := news) (n' := st.out.length + news.length) (by rw [List.length_append]) hsl hfr (hown.imp id fun e k hk => by rw [e] at hk; cases hk; exact Nat.le_refl _)
  have hne := hA.sl.ne (c := #[bv, .int .i64 st.pos, sv, .int .i64 st.cells, .int .i64 st.why, .int .i64 st.place]) hA.blk (by decide)
  have hb3 : w'.heap[rb]? = some (st.blk bv sv) := hfr.at hA.blk (fun e => hne _ e rfl)
  exact k ao cap w' (Ds.cell hb3).2.2.1 (blk_free hb3 2) (hq.behind (bel_box _ _))

def dcharsD (bs : List UInt8) (s : Ds) (at' : Nat) : Res (Rs × Nat × Bool) :=
  (numD bs s.pos 2).bind fun n => (takeD bs (s.pos + 2) n).bind fun l => if 1024 < s.cells + (2 * n + 1) then .bad 7 at' else .ok (⟨s.pos + 2 + n, s.cells + (2 * n + 1), s.out ++ charCs l ++ [nilC]⟩, 0, false)

set_option maxHeartbeats 3200000 in
set_option maxRecDepth 100000 in
theorem dsmall_any (B rb : Nat) (bv sv : Value) (bs : List UInt8) (s : Ds) (at' : Nat) (hlen : bs.length ≤ 1048576) (hpos : 1 ≤ bs.length) (w : World) (h : Dp B w rb bv sv bs s) (hs : s.why = 0) (hcl : s.cells ≤ 1024) (hol : s.out.length ≤ 10000000) :
    Calls Tryd.prog 60 #[.pointer (some ⟨rb, 0, none⟩), .int .i64 at'] w (DPost B w rb bv sv bs (dcharsD bs s at')) := by
  have HS := Lib.hid hs
  have H := Lib.hid h
  have HC := Lib.hid (⟨hcl, hol⟩ : s.cells ≤ 1024 ∧ s.out.length ≤ 10000000)
  have H1 := dnum_any B rb bv sv bs s 2 hlen hpos (by omega) w h hs
  obtain ⟨X, hX⟩ : ∃ X, dcharsD bs s at' = X := ⟨_, rfl⟩
  have HX := Lib.hid (show X = dcharsD bs s at' from hX.symm)
  rw [hX]
  clear h hs hX
  cases hk : numD bs s.pos 2 with
  | bad e p =>
    replace H1 := Lib.hid (callsBad H1 hk)
    have HF : Hid (X = .bad e p) := Lib.hid (by rw [HX.out]; unfold dcharsD; rw [hk]; rfl)
    clear hk
    go_enter Tryd.func60, Tryd.ntmps60
    go_wp2_with fail
    refine (H1.out).mono ?_
    rintro r wx ⟨rfl, hE⟩
    have HE := Lib.hid hE
    clear hE
    go_wp2_with fail
    refine bodyPost_ret (results_none rfl _ _ _) rfl ⟨rfl, ResP.badI HF.out HE.out⟩
  | ok n =>
    replace H1 := Lib.hid (callsOk H1 hk)
    have hkb := num_lt' hk
    cases hl : takeD bs (s.pos + 2) n with
    | bad e q =>
      have HF : Hid (X = .bad e q) := Lib.hid (by rw [HX.out]; unfold dcharsD; rw [hk]; simp only [Res.bind]; rw [hl])
      have HL := Lib.hid hl
      clear hk hl
      go_enter Tryd.func60, Tryd.ntmps60
      go_wp2_with fail
      refine (H1.out).mono ?_
      rintro r w1 ⟨rfl, h1⟩
      have H2 := Lib.hid (callsBad (dtake_any B rb bv sv bs _ n hlen hpos (by omega) w1 h1.rp HS.out) HL.out)
      have HW1 := Lib.hid h1
      clear h1
      go_wp2_with fail
      refine (H2.out).mono ?_
      rintro r wx ⟨rfl, hE⟩
      have HE := Lib.hid (DEr.behind HW1.out hE)
      clear hE
      go_wp2_with fail
      refine bodyPost_ret (results_none rfl _ _ _) rfl ⟨rfl, ResP.badI HF.out HE.out⟩
    | ok l =>
      have HL := Lib.hid hl
      have HF : Hid (X = if 1024 < s.cells + (2 * n + 1) then .bad 7 at' else .ok (⟨s.pos + 2 + n, s.cells + (2 * n + 1), s.out ++ charCs l ++ [nilC]⟩, 0, false)) := Lib.hid (by rw [HX.out]; unfold dcharsD; rw [hk]; simp only [Res.bind]; rw [hl])
      clear hk hl
      go_enter Tryd.func60, Tryd.ntmps60
      go_wp2_with fail
      refine (H1.out).mono ?_
      rintro r w1 ⟨rfl, h1⟩
      have H2 := Lib.hid (callsOk (dtake_any B rb bv sv bs _ n hlen hpos (by omega) w1 h1.rp HS.out) HL.out)
      have HW1 := Lib.hid h1
      clear h1
      go_wp2_with fail
      refine (H2.out).mono ?_
      rintro r w2 ⟨hll, ⟨g, off, cap, rfl, hrd⟩, h2⟩
      have HLL := Lib.hid hll
      have HRD := Lib.hid hrd
      have HW2 := Lib.hid (HW1.out.trans h2)
      obtain ⟨k, hk⟩ : ∃ k, 2 * n + 1 = k := ⟨_, rfl⟩
      have e1 : IntKind.i64.wrap (2 * (n : Int)) = 2 * (n : Int) := wraps_i64 _ (by omega) (by omega)
      have e2 : IntKind.i64.wrap (2 * (n : Int) + 1) = (k : Int) := by rw [wraps_i64 _ (by omega) (by omega)]; omega
      have e6 : 2 * (n : Int) + 1 = (k : Int) := by omega
      have e7 : IntKind.i64.wrap (k : Int) = (k : Int) := wraps_i64 _ (by omega) (by omega)
      have HK := Lib.hid hk
      rw [hk] at HF
      have H3 := Lib.hid (dcount_any B rb bv sv bs _ k at' w2 h2.rp HC.out.1 (by omega))
      have HR2 := Lib.hid h2.rp
      clear h2 hrd hk hll
      go_wp2_with fail
      refine (H3.out).mono ?_
      rintro r w3 ⟨rfl, h3⟩
      by_cases hbig : 1024 < s.cells + k
      · have HFB : Hid (X = .bad 7 at') := Lib.hid (by rw [HF.out, if_pos hbig])
        rw [show (Ds.count { s with pos := s.pos + 2 + n } k at') = Ds.fail { s with pos := s.pos + 2 + n } 7 at' from if_pos hbig] at h3
        have hE : DEr B w rb bv sv bs 7 at' w3 := DEr.behind HW2.out (.fail h3 HS.out (by omega))
        have c4 := (Ds.cell h3.rp.blk).2.2.2.2.1
        rw [Ds.fail_zero (s := { s with pos := s.pos + 2 + n }) HS.out] at c4
        simp only at c4
        have HE := Lib.hid hE
        clear h3 hE hbig
        go_wp2_with fail
        refine bodyPost_ret (results_none rfl _ _ _) rfl ⟨rfl, ResP.badI HFB.out HE.out⟩
      · have HFG : Hid (X = .ok (⟨s.pos + 2 + n, s.cells + k, s.out ++ charCs l ++ [nilC]⟩, 0, false)) := Lib.hid (by rw [HF.out, if_neg hbig])
        obtain ⟨mk, hmk⟩ : ∃ mk, s.cells + k = mk := ⟨_, rfl⟩
        rw [show (Ds.count { s with pos := s.pos + 2 + n } k at') = { s with pos := s.pos + 2 + n, cells := s.cells + k } from if_neg hbig] at h3
        rw [hmk] at h3 HFG
        have c4 := (Ds.cell h3.rp.blk).2.2.2.2.1
        simp only at c4
        rw [HS.out] at c4
        have HU := Lib.hid h3
        clear h3 hbig hmk
        go_wp2_with fail
        clear c4
        go_loopg [8, 37] n (fun g _ s37 wr => ∃ (i : Nat) (sv2 : Value) (O : List Ce), s37 = .int .i64 i ∧ i + g = n ∧ Dw B w2 rb bv sv bs wr sv2 { s with pos := s.pos + 2 + n, cells := mk, out := O } ∧ Hid (O = s.out ++ charCs (l.take i)) ∧ O.length = s.out.length + 2 * i)
        case atStart => exact ⟨0, sv, s.out, rfl, by omega, HU.out, Lib.hid (by simp [charCs]), by omega⟩
        case round =>
          obtain ⟨i, sv2, O, rfl, hig, hR, HO, hOl⟩ := hrel
          obtain ⟨n0, hn0⟩ : ∃ n0, O.length = n0 := ⟨_, rfl⟩
          have hsl := hR.rp.sl
          simp only at hsl
          rw [hn0] at hsl
          obtain ⟨ao, cp, rfl, _, _⟩ := hsl.shape
          have c4 := (Ds.cell hR.rp.blk).2.2.1
          have HR := Lib.hid hR
          have HN0 := Lib.hid hn0
          clear hsl hR
          cases gk with
          | zero =>
            obtain rfl : i = n := by omega
            have HFE : Hid (X = .ok (⟨s.pos + 2 + i, mk, O ++ [nilC]⟩, 0, false)) := Lib.hid (by
              rw [HFG.out, HO.out, List.take_of_length_le (by rw [HLL.out]; omega)])
            go_wp2_with (at_builtin; refine wpList_dcells (.tmp 59) (.tmp 61) [nilC] _ 1 _ rfl rfl rfl rfl rfl HR.out.rp rfl rfl (by simp only; omega) ?next)
            case next =>
              intro ao2 cp2 w5 d4 f4 hq
              have HQ := Lib.hid hq
              clear hq
              go_wp2_with fail
              go_end0
              exact ⟨rfl, ResP.okI HFE.out ⟨_, _, HW2.out.trans (HR.out.trans HQ.out), HS.out, rfl⟩⟩
          | succ g' =>
            have hil : i < l.length := by have := HLL.out; omega
            obtain ⟨c, hc⟩ : ∃ c, l[i]? = some c := ⟨l[i], List.getElem?_eq_getElem _⟩
            have hck := cells_byte (HRD.out.step (HR.out.bel HR2.out)).now hc HLL.out
            have HCS : Hid (O ++ [consC, intC (c.toNat : Int)] = s.out ++ charCs (l.take (i + 1))) := Lib.hid (by rw [HO.out, charCs_snoc l i c hc, List.append_assoc])
            obtain ⟨y, hy⟩ : ∃ y, c.toNat = y := ⟨_, rfl⟩
            rw [hy] at hck HCS
            have hyb : y < 256 := by rw [← hy]; exact UInt8.toNat_lt c
            have hkz : (i : Int) < (n : Int) := by omega
            have HIG := Lib.hid hig
            clear hc hy hil
            go_wp2_with (at_builtin; refine wpList_dcells (.tmp 45) (.tmp 50) [consC, intC (y : Int)] _ 2 _ rfl rfl rfl rfl rfl HR.out.rp rfl rfl (by simp only; omega) ?next)
            case next =>
              intro ao2 cp2 w5 d4 f4 hq
              have HQ := Lib.hid hq
              clear hq
              go_wp2_with fail
              go_roundg g'
              case measure => omega
              case rel => exact ⟨i + 1, _, _, by first | rfl | (congr 1; omega), by have := HIG.out; omega, HR.out.trans HQ.out, HCS, by simp; omega⟩
end Go.Proofs.YtkhjdcnlpablkaaDoor

/-! Plain: terms one after another, split; how many cells there are. The document's tuple, list. -/
namespace Go.Proofs.YtkhjdcnlpablkaaDoor
open Go.RowKit
open Go.Lib (byteCells)

/-- What follows one step. -/
def OneX (bs : List UInt8) (Y : Res (Rs × Nat × Bool)) (X : Res Rs) : Prop := match Y with
  | .bad e p => X = .bad e p
  | .ok x => Runs bs x.2.1 x.2.2 x.1 X

theorem one_split {bs : List UInt8} {s : Rs} {X : Res Rs} (h : Runs bs 1 false s X) : OneX bs (oneD bs s) X := by
  obtain ⟨f, hf⟩ := h
  cases f with
  | zero => simp [kidsD] at hf
  | succ f =>
    rw [kidsD] at hf
    rw [show push false 0 s = s from rfl] at hf
    cases h1 : oneD bs s with
    | bad e p =>
      rw [h1] at hf
      simp only [Option.some.injEq] at hf
      exact hf.symm
    | ok x =>
      obtain ⟨s1, k1, c1⟩ := x
      rw [h1] at hf
      simp only at hf
      show Runs bs k1 c1 s1 X
      cases h2 : kidsD bs f k1 c1 s1 with
      | none => rw [h2] at hf; simp at hf
      | some y =>
        rw [h2] at hf
        cases y with
        | bad e p =>
          simp only [Option.some.injEq] at hf
          rw [← hf]
          exact ⟨f, h2⟩
        | ok s2 =>
          simp [kidsD] at hf
          rw [← hf]
          exact ⟨f, h2⟩

theorem kids_split {bs : List UInt8} {k : Nat} {c : Bool} {s : Rs} {Y : Res Rs} (h : Runs bs (k + 1) c s Y) :
    (∃ e p, Runs bs 1 false (push c k s) (.bad e p) ∧ Y = .bad e p) ∨ (∃ s2, Runs bs 1 false (push c k s) (.ok s2) ∧ Runs bs k c s2 Y) := by
  obtain ⟨f, hf⟩ := h
  cases f with
  | zero => simp [kidsD] at hf
  | succ f =>
    rw [kidsD] at hf
    cases h1 : oneD bs (push c k s) with
    | bad e p =>
      rw [h1] at hf
      simp only [Option.some.injEq] at hf
      exact .inl ⟨e, p, Runs.bad (by rw [show push false 0 (push c k s) = push c k s from rfl]; exact h1), hf.symm⟩
    | ok x =>
      obtain ⟨s1, k1, c1⟩ := x
      rw [h1] at hf
      simp only at hf
      cases h2 : kidsD bs f k1 c1 s1 with
      | none => rw [h2] at hf; simp at hf
      | some y =>
        rw [h2] at hf
        cases y with
        | bad e p =>
          simp only [Option.some.injEq] at hf
          exact .inl ⟨e, p, Runs.stop (c := false) (k := 0) (by rw [show push false 0 (push c k s) = push c k s from rfl]; exact h1) ⟨f, h2⟩, hf.symm⟩
        | ok s2 =>
          simp only at hf
          exact .inr ⟨s2, Runs.step (c := false) (k := 0) (by rw [show push false 0 (push c k s) = push c k s from rfl]; exact h1) ⟨f, h2⟩ Runs.zero, ⟨f, hf⟩⟩

theorem push_out (c : Bool) (k : Nat) (s : Rs) : (push c k s).out.length ≤ s.out.length + 1 := by
  unfold push
  split
  · simp
  · omega
theorem kids_out (bs : List UInt8) : ∀ (f k : Nat) (c : Bool) (s s' : Rs), kidsD bs f k c s = some (.ok s') → s'.out.length + s.cells + s.pos ≤ s.out.length + s'.cells + s'.pos ∧ (s.cells ≤ 1024 → s'.cells ≤ 1024)
  | _, 0, _, s, s', h => by
    simp [kidsD] at h
    subst h
    exact ⟨Nat.le_refl _, fun h => h⟩
  | 0, _ + 1, _, _, _, h => by simp [kidsD] at h
  | f + 1, k + 1, c, s, s', h => by
    rw [kidsD] at h
    cases h1 : oneD bs (push c k s) with
    | bad e p => rw [h1] at h; cases h
    | ok x =>
      obtain ⟨s1, k1, c1⟩ := x
      have ho := oneD_ok h1
      have hp := push_pos c k s
      have hq := push_out c k s
      rw [hp.1, hp.2] at ho
      rw [h1] at h
      simp only at h
      cases h2 : kidsD bs f k1 c1 s1 with
      | none => rw [h2] at h; cases h
      | some y =>
        rw [h2] at h
        cases y with
        | bad e p => cases h
        | ok s2 =>
          have a1 := kids_out bs f k1 c1 s1 s2 h2
          have a2 := kids_out bs f k c s2 s' h
          have a3 := a1.2 ho.2.2.1
          exact ⟨by omega, fun _ => a2.2 a3⟩
/-- What reading one term leaves. -/
theorem term_out {bs : List UInt8} {s s' : Rs} (h : Runs bs 1 false s (.ok s')) : s'.out.length + s.cells + s.pos + 1 ≤ s.out.length + s'.cells + s'.pos ∧ s'.cells ≤ 1024 ∧ s.pos < s'.pos ∧ s'.pos ≤ bs.length := by
  have h1 := one_split h
  cases h2 : oneD bs s with
  | bad e p => rw [h2] at h1; cases h1
  | ok x =>
    obtain ⟨s1, k1, c1⟩ := x
    rw [h2] at h1
    obtain ⟨f, hf⟩ := (show Runs bs k1 c1 s1 (.ok s') from h1)
    have ho := oneD_ok h2
    have a1 := kids_out bs f k1 c1 s1 s' hf
    have a3 := (kids_total bs (max f (bs.length + 1)) k1 c1 s1 (by omega) ho.2.1)
    obtain ⟨r, hr, hr2⟩ := a3
    rw [kids_le bs hf (Nat.le_max_left f (bs.length + 1))] at hr
    cases hr
    have := hr2 s' rfl
    exact ⟨by omega, a1.2 ho.2.2.1, by omega, by omega⟩
end Go.Proofs.YtkhjdcnlpablkaaDoor

/-! The document's reader: a tuple, a list. -/
namespace Go.Proofs.YtkhjdcnlpablkaaDoor
open Go.RowKit
open Go.Lib (byteCells)

/-- What reading terms leaves. -/
def DPx (B : Nat) (w : World) (rb : Nat) (bv sv : Value) (bs : List UInt8) (X : Res Rs) (r : Ending) (w' : World) : Prop :=
  r = .returned (.tuple #[]) ∧ ResP X (fun x => DOk B w rb bv sv bs w' x) (fun e p => DEr B w rb bv sv bs e p w')
theorem DPx.behind {B rb : Nat} {w w1 w2 : World} {bv sv sv1 : Value} {bs : List UInt8} {s1 : Ds} {X : Res Rs} {r : Ending} (h : Dw B w rb bv sv bs w1 sv1 s1) (k : DPx B w1 rb bv sv1 bs X r w2) : DPx B w rb bv sv bs X r w2 := by
  refine ⟨k.1, ?_⟩
  cases X with
  | ok x => exact DOk.behind h k.2
  | bad e p => exact DEr.behind h k.2

/-- What holds of a state that is read from. -/
structure DSt (bs : List UInt8) (s : Ds) : Prop where
  why : s.why = 0
  cells : s.cells ≤ 1024
  out : s.out.length ≤ s.cells + s.pos + 1
/-- Terms that begin less than M ahead of the end are read. -/
def DT (bs : List UInt8) (M : Nat) : Prop := ∀ (B rb : Nat) (bv sv : Value) (s : Ds) (w : World) (X : Res Rs), Dp B w rb bv sv bs s → DSt bs s → bs.length < s.pos + M → Runs bs 1 false s.rs X → Calls Tryd.prog 32 #[.pointer (some ⟨rb, 0, none⟩)] w (DPx B w rb bv sv bs X)

def tupD (bs : List UInt8) (s : Ds) (size at' : Nat) : Res (Rs × Nat × Bool) :=
  (numD bs s.pos size).bind fun n => if 255 < n then .bad 1 at' else (madeD s.rs (s.pos + size) at' ⟨5, n, ⟨#[]⟩⟩).bind fun x => .ok (x.1, n, false)

/-- A loop over terms: the state, or a fault. -/
def LpT (B : Nat) (w : World) (rb : Nat) (bv sv : Value) (bs : List UInt8) (c : Bool) (p0 k : Nat) (X : Res Rs) (wr : World) : Prop :=
  (∃ sv2 s2, Dw B w rb bv sv bs wr sv2 s2 ∧ s2.why = 0 ∧ s2.cells ≤ 1024 ∧ s2.out.length ≤ s2.cells + s2.pos ∧ p0 ≤ s2.pos ∧ Runs bs k c s2.rs X) ∨ (∃ e p, X = .bad e p ∧ DEr B w rb bv sv bs e p wr)

theorem DEr.why0 {B rb : Nat} {w w' : World} {bv sv : Value} {bs : List UInt8} {e p : Nat} (h : DEr B w rb bv sv bs e p w') : w'.cell? ⟨rb, 4, none⟩ = some (.int .i64 e) ∧ ((e : Int) == 0) = false ∧ ((e : Int) != 0) = true := by
  obtain ⟨sv1, s1, k1, k2, _, k4⟩ := h
  have c4 := (Ds.cell k1.rp.blk).2.2.2.2.1
  rw [k2] at c4
  exact ⟨c4, by simp; omega, by simp; omega⟩

set_option maxHeartbeats 3200000 in
set_option maxRecDepth 100000 in
theorem dtuple_any (M : Nat) (bs : List UInt8) (ih : DT bs M) (hlen : bs.length ≤ 1048576) (hpos : 1 ≤ bs.length) (B rb : Nat) (bv sv : Value) (s : Ds) (size at' : Nat) (hsz : size = 1 ∨ size = 4) (w : World) (X : Res Rs) (h : Dp B w rb bv sv bs s) (hst : DSt bs s)
    (hM : bs.length ≤ s.pos + M) (hX : OneX bs (tupD bs s size at') X) :
    Calls Tryd.prog 59 #[.pointer (some ⟨rb, 0, none⟩), .int .i64 size, .int .i64 at'] w (DPx B w rb bv sv bs X) := by
  have HST := Lib.hid hst
  have H := Lib.hid h
  have hle := h.le
  have hsz4 : 1 ≤ size ∧ size ≤ 4 := by omega
  have H1 := dnum_any B rb bv sv bs s size hlen hpos (by omega) w h hst.why
  clear h hst
  cases hn : numD bs s.pos size with
  | bad e p =>
    have HF : Hid (X = .bad e p) := Lib.hid (by unfold tupD at hX; rw [hn] at hX; exact hX)
    have HH1 := Lib.hid (callsBad H1 hn)
    clear H1 hn hX hsz
    go_enter Tryd.func59, Tryd.ntmps59
    go_wp2_with fail
    refine (HH1.out).mono ?_
    rintro r w1 ⟨rfl, hE⟩
    have HE := Lib.hid hE
    obtain ⟨c4, q1, q2⟩ := hE.why0
    clear hE
    go_wp2_with fail
    refine bodyPost_ret (results_none rfl _ _ _) rfl ⟨rfl, ResP.badI HF.out HE.out⟩
  | ok n =>
    have HH1 := Lib.hid (callsOk H1 hn)
    have hnb : n < 4294967296 := by
      have := num_lt' hn
      rcases hsz with rfl | rfl <;> omega
    have hno := (numD_ok hn).1
    by_cases h255 : 255 < n
    · have HF : Hid (X = .bad 1 at') := Lib.hid (by unfold tupD at hX; rw [hn] at hX; simp only [Res.bind, if_pos h255] at hX; exact hX)
      have t1 : decide ((255 : Int) < (n : Int)) = true := decide_eq_true (by omega)
      have t2 : decide (255 < n) = true := decide_eq_true (by omega)
      clear H1 hn hX hsz h255
      go_enter Tryd.func59, Tryd.ntmps59
      go_wp2_with fail
      refine (HH1.out).mono ?_
      rintro r w1 ⟨rfl, h1⟩
      have H2 := Lib.hid (dfail_any B rb bv sv bs _ 1 at' w1 h1.rp)
      have HW1 := Lib.hid h1
      clear h1
      go_wp2_with fail
      refine (H2.out).mono ?_
      rintro r w2 ⟨rfl, h2⟩
      have hE : DEr B w rb bv sv bs 1 at' w2 := DEr.behind HW1.out (.fail h2 HST.out.why (by omega))
      have HE := Lib.hid hE
      obtain ⟨c4, q1, q2⟩ := hE.why0
      clear hE h2
      go_wp2_with fail
      refine bodyPost_ret (results_none rfl _ _ _) rfl ⟨rfl, ResP.badI HF.out HE.out⟩
    · have t1 : decide ((255 : Int) < (n : Int)) = false := decide_eq_false (by omega)
      have t2 : decide (255 < n) = false := decide_eq_false (by omega)
      have HX : Hid (OneX bs ((madeD s.rs (s.pos + size) at' ⟨5, n, ⟨#[]⟩⟩).bind fun x => .ok (x.1, n, false)) X) := Lib.hid (by unfold tupD at hX; rw [hn] at hX; simp only [Res.bind, if_neg h255] at hX; exact hX)
      have hol := HST.out.out
      have hcl := HST.out.cells
      clear H1 hn hX hsz
      go_enter Tryd.func59, Tryd.ntmps59
      go_wp2_with fail
      refine (HH1.out).mono ?_
      rintro r w1 ⟨rfl, h1⟩
      have c4 := (Ds.cell h1.rp.blk).2.2.2.2.1
      simp only at c4
      rw [HST.out.why] at c4
      have H2 := Lib.hid (dleaf_made B rb bv sv bs _ 5 n ⟨#[]⟩ at' w1 h1.rp HST.out.why HST.out.cells (by simp only; omega))
      have HW1 := Lib.hid h1
      clear h1
      go_wp2_with fail
      refine (H2.out).mono ?_
      rintro r w2 ⟨rfl, h2⟩
      have hL : LpT B w1 rb bv sv bs false (s.pos + size) n X w2 := by
        cases hm : madeD s.rs (s.pos + size) at' ⟨5, n, ⟨#[]⟩⟩ with
        | bad e p =>
          have hx := HX.out
          rw [hm] at hx
          exact .inr ⟨e, p, hx, h2.badE hm⟩
        | ok x =>
          have hx := HX.out
          rw [hm] at hx
          obtain ⟨sv2, s2, k1, k2, k3⟩ := h2.okE hm
          obtain ⟨m1, m2⟩ := madeD_ok hm
          rw [m1] at k3 hx
          simp only [Res.bind] at hx
          have e1 : s2.pos = s.pos + size := congrArg Rs.pos k3
          have e2 : s2.cells = s.cells + 1 := congrArg Rs.cells k3
          have e3 : s2.out = s.out ++ [⟨5, n, ⟨#[]⟩⟩] := congrArg Rs.out k3
          refine .inl ⟨sv2, s2, k1, k2, by rw [e2]; exact m2, by rw [e1, e2, e3, List.length_append]; simp; omega, by omega, ?_⟩
          rw [k3]
          exact hx
      have HL := Lib.hid hL
      clear h2 hL c4 H2 HX
      go_wp2_with fail
      go_loopg [8] n (fun g s8 wr => ∃ i : Nat, s8 = .int .i64 i ∧ i + g = n ∧ Hid (LpT B w1 rb bv sv bs false (s.pos + size) g X wr))
      case atStart => exact ⟨0, rfl, by omega, HL⟩
      case round =>
        clear HL
        obtain ⟨i, rfl, hig, hI⟩ := hrel
        rcases hI.out with ⟨sv2, s2, k1, k2, k3, k4, k5, k6⟩ | ⟨e, p, k1, k2⟩
        · have c4 := (Ds.cell k1.rp.blk).2.2.2.2.1
          rw [k2] at c4
          cases gk with
          | zero =>
            obtain rfl : i = n := by omega
            have HF : Hid (X = .ok s2.rs) := Lib.hid (Runs.unique k6 Runs.zero)
            have HP : Hid (DOk B w rb bv sv bs wr s2.rs) := Lib.hid ⟨sv2, s2, HW1.out.trans k1, k2, rfl⟩
            clear k1 k2 k3 k4 k5 k6 hI
            go_wp2_with fail
            go_end0
            exact ⟨rfl, ResP.okI HF.out HP.out⟩
          | succ g =>
            have hin : (i : Int) < (n : Int) := by omega
            have qi : decide ((i : Int) < (n : Int)) = true := decide_eq_true hin
            have hIG := Lib.hid hig
            have HN : Hid (∃ Z, Runs bs 1 false s2.rs Z ∧ ((∃ e p, Z = .bad e p ∧ X = .bad e p) ∨ (∃ s3, Z = .ok s3 ∧ Runs bs g false s3 X))) := Lib.hid (by
              rcases kids_split k6 with ⟨e, p, h1, h2⟩ | ⟨s3, h1, h2⟩
              · exact ⟨_, h1, .inl ⟨e, p, rfl, h2⟩⟩
              · exact ⟨_, h1, .inr ⟨s3, rfl, h2⟩⟩)
            obtain ⟨Z, hZ1, hZ2⟩ := HN.out
            have H3 := Lib.hid (ih B rb bv sv2 s2 wr Z k1.rp ⟨k2, k3, by omega⟩ (by have := k1.rp.le; omega) hZ1)
            have HZ1 := Lib.hid hZ1
            have HZ2 := Lib.hid hZ2
            have HK := Lib.hid (⟨k3, k4, k5⟩ : s2.cells ≤ 1024 ∧ s2.out.length ≤ s2.cells + s2.pos ∧ s.pos + size ≤ s2.pos)
            have HK1 := Lib.hid k1
            clear k1 k2 k3 k4 k5 k6 hI hZ1 hZ2 HN
            go_wp2_with fail
            refine (H3.out).mono ?_
            rintro r w3 ⟨rfl, h3⟩
            have HL3 : Hid (LpT B w1 rb bv sv bs false (s.pos + size) g X w3) := Lib.hid (by
              rcases HZ2.out with ⟨e, p, hz, hx⟩ | ⟨s3, hz, hx⟩
              · exact .inr ⟨e, p, hx, DEr.behind HK1.out (h3.badE hz)⟩
              · obtain ⟨sv4, s4, j1, j2, j3⟩ := h3.okE hz
                have ht := HZ1.out
                rw [hz] at ht
                have ht := term_out ht
                have e1 : s4.pos = s3.pos := congrArg Rs.pos j3
                have e2 : s4.cells = s3.cells := congrArg Rs.cells j3
                have e3 : s4.out = s3.out := congrArg Rs.out j3
                have hk := HK.out
                simp only [Ds.rs] at ht
                exact .inl ⟨sv4, s4, HK1.out.trans j1, j2, by omega, by rw [e3]; omega, by omega, by rw [j3]; exact hx⟩)
            clear h3 c4
            go_wp2_with fail
            go_roundg g
            case measure => omega
            case rel => exact ⟨i + 1, by go_num, by have := hIG.out; omega, HL3⟩
        · have HF := Lib.hid k1
          have hE : DEr B w rb bv sv bs e p wr := DEr.behind HW1.out k2
          have HE := Lib.hid hE
          obtain ⟨c4, q1, q2⟩ := hE.why0
          clear k1 k2 hI hE
          cases gk with
          | zero =>
            obtain rfl : i = n := by omega
            go_wp2_with fail
            go_end0
            exact ⟨rfl, ResP.badI HF.out HE.out⟩
          | succ g =>
            have hin : (i : Int) < (n : Int) := by omega
            have qi : decide ((i : Int) < (n : Int)) = true := decide_eq_true hin
            go_wp2_with fail
            go_end0
            exact ⟨rfl, ResP.badI HF.out HE.out⟩
end Go.Proofs.YtkhjdcnlpablkaaDoor

/-! The document's reader: a list. -/
namespace Go.Proofs.YtkhjdcnlpablkaaDoor
open Go.RowKit
open Go.Lib (byteCells)

def dlistD (bs : List UInt8) (s : Ds) (at' : Nat) : Res (Rs × Nat × Bool) :=
  (numD bs s.pos 4).bind fun n => if 1024 < s.cells + n then .bad 7 at' else .ok (⟨s.pos + 4, s.cells + n, s.out⟩, n + 1, true)

theorem runs_true {bs : List UInt8} {s : Rs} {X : Res Rs} (h : Runs bs 1 true s X) : Runs bs 1 false s X := by
  rcases kids_split (k := 0) h with ⟨e, p, h1, h2⟩ | ⟨s2, h1, h2⟩
  · rw [h2]; exact h1
  · rw [Runs.unique h2 Runs.zero]; exact h1

set_option maxHeartbeats 3200000 in
set_option maxRecDepth 100000 in
theorem dlist_any (M : Nat) (bs : List UInt8) (ih : DT bs M) (hlen : bs.length ≤ 1048576) (hpos : 1 ≤ bs.length) (B rb : Nat) (bv sv : Value) (s : Ds) (at' : Nat) (w : World) (X : Res Rs) (h : Dp B w rb bv sv bs s) (hst : DSt bs s) (hso : s.out.length ≤ s.cells + s.pos)
    (hM : bs.length ≤ s.pos + M) (hX : OneX bs (dlistD bs s at') X) :
    Calls Tryd.prog 61 #[.pointer (some ⟨rb, 0, none⟩), .int .i64 at'] w (DPx B w rb bv sv bs X) := by
  have HST := Lib.hid hst
  have H := Lib.hid h
  have H1 := dnum_any B rb bv sv bs s 4 hlen hpos (by omega) w h hst.why
  clear h hst
  cases hn : numD bs s.pos 4 with
  | bad e p =>
    have HF : Hid (X = .bad e p) := Lib.hid (by unfold dlistD at hX; rw [hn] at hX; exact hX)
    have HH1 := Lib.hid (callsBad H1 hn)
    clear H1 hn hX
    go_enter Tryd.func61, Tryd.ntmps61
    go_wp2_with fail
    refine (HH1.out).mono ?_
    rintro r w1 ⟨rfl, hE⟩
    have HE := Lib.hid hE
    clear hE
    go_wp2_with fail
    refine bodyPost_ret (results_none rfl _ _ _) rfl ⟨rfl, ResP.badI HF.out HE.out⟩
  | ok n =>
    have HH1 := Lib.hid (callsOk H1 hn)
    have hnb : n < 4294967296 := num_lt' hn
    have HX : Hid (OneX bs (if 1024 < s.cells + n then .bad 7 at' else .ok (⟨s.pos + 4, s.cells + n, s.out⟩, n + 1, true)) X) := Lib.hid (by unfold dlistD at hX; rw [hn] at hX; exact hX)
    clear H1 hn hX
    have hcl := HST.out.cells
    go_enter Tryd.func61, Tryd.ntmps61
    go_wp2_with fail
    refine (HH1.out).mono ?_
    rintro r w1 ⟨rfl, h1⟩
    have H2 := Lib.hid (dcount_any B rb bv sv bs _ n at' w1 h1.rp HST.out.cells (by omega))
    have HW1 := Lib.hid h1
    clear h1
    go_wp2_with fail
    refine (H2.out).mono ?_
    rintro r w2 ⟨rfl, h2⟩
    have hL : LpT B w1 rb bv sv bs true (s.pos + 4) (n + 1) X w2 := by
      by_cases hb : 1024 < s.cells + n
      · have hx := HX.out
        rw [if_pos hb] at hx
        rw [show (Ds.count { s with pos := s.pos + 4 } n at') = Ds.fail { s with pos := s.pos + 4 } 7 at' from if_pos hb] at h2
        exact .inr ⟨7, at', hx, .fail h2 HST.out.why (by omega)⟩
      · have hx := HX.out
        rw [if_neg hb] at hx
        rw [show (Ds.count { s with pos := s.pos + 4 } n at') = { s with pos := s.pos + 4, cells := s.cells + n } from if_neg hb] at h2
        exact .inl ⟨_, _, h2, HST.out.why, by show s.cells + n ≤ 1024; omega, by show s.out.length ≤ s.cells + n + (s.pos + 4); omega, Nat.le_refl _, hx⟩
    have HL := Lib.hid hL
    clear h2 hL H2 HX
    go_wp2_with fail
    go_loopg [6] n (fun g s6 wr => ∃ i : Nat, s6 = .int .i64 i ∧ i + g = n ∧ Hid (LpT B w1 rb bv sv bs true (s.pos + 4) (g + 1) X wr))
    case atStart => exact ⟨0, rfl, by omega, HL⟩
    case round =>
      clear HL
      obtain ⟨i, rfl, hig, hI⟩ := hrel
      rcases hI.out with ⟨sv2, s2, k1, k2, k3, k4, k5, k6⟩ | ⟨e, p, k1, k2⟩
      · have c4 := (Ds.cell k1.rp.blk).2.2.2.2.1
        rw [k2] at c4
        cases gk with
        | zero =>
          obtain rfl : i = n := by omega
          have H3 := Lib.hid (ih B rb bv sv2 s2 wr X k1.rp ⟨k2, k3, by omega⟩ (by have := k1.rp.le; omega) (runs_true k6))
          have HK1 := Lib.hid (HW1.out.trans k1)
          clear k1 k2 k3 k4 k5 k6 hI
          go_wp2_with fail
          refine (H3.out).mono ?_
          rintro r w3 h3
          obtain rfl := h3.1
          have HP := Lib.hid (DPx.behind HK1.out h3)
          clear h3
          go_wp2_with fail
          go_end0
          exact HP.out
        | succ g =>
          have hin : (i : Int) < (n : Int) := by omega
          have qi : decide ((i : Int) < (n : Int)) = true := decide_eq_true hin
          have hIG := Lib.hid hig
          have hps : push true (g + 1) s2.rs = ⟨s2.pos, s2.cells, s2.out ++ [consC]⟩ := by
            unfold push
            rw [if_pos (by simp)]
            rfl
          have HN : Hid (∃ Z, Runs bs 1 false ⟨s2.pos, s2.cells, s2.out ++ [consC]⟩ Z ∧ ((∃ e p, Z = .bad e p ∧ X = .bad e p) ∨ (∃ s3, Z = .ok s3 ∧ Runs bs (g + 1) true s3 X))) := Lib.hid (by
            rcases kids_split k6 with ⟨e, p, h1, h2⟩ | ⟨s3, h1, h2⟩
            · rw [hps] at h1
              exact ⟨_, h1, .inl ⟨e, p, rfl, h2⟩⟩
            · rw [hps] at h1
              exact ⟨_, h1, .inr ⟨s3, rfl, h2⟩⟩)
          obtain ⟨Z, hZ1, hZ2⟩ := HN.out
          have HZ1 := Lib.hid hZ1
          have HZ2 := Lib.hid hZ2
          have HK := Lib.hid (⟨k2, k3, k4, k5, k1.rp.le⟩ : s2.why = 0 ∧ s2.cells ≤ 1024 ∧ s2.out.length ≤ s2.cells + s2.pos ∧ s.pos + 4 ≤ s2.pos ∧ s2.pos ≤ bs.length)
          obtain ⟨n0, hn0⟩ : ∃ n0, s2.out.length = n0 := ⟨_, rfl⟩
          have hsl := k1.rp.sl
          rw [hn0] at hsl
          obtain ⟨ao, cp, rfl, _, _⟩ := hsl.shape
          have c2 := (Ds.cell k1.rp.blk).2.2.1
          have HN0 := Lib.hid hn0
          have HK1 := Lib.hid k1
          clear k1 k2 k3 k4 k5 k6 hI hZ1 hZ2 HN hps hsl
          go_wp2_with (at_builtin; refine wpList_dcells (.tmp 34) (.tmp 36) [consC] _ 1 _ rfl rfl rfl rfl rfl HK1.out.rp rfl rfl (by have := HK.out; omega) ?next)
          case next =>
            intro ao2 cp2 w5 d4 f4 hq
            have HQ := Lib.hid hq
            have HW5 := Lib.hid (HK1.out.trans hq)
            have H3 := Lib.hid (ih B rb bv _ _ _ Z hq.rp ⟨HK.out.1, HK.out.2.1, by have := HK.out; simp only [List.length_append, List.length_cons, List.length_nil]; omega⟩ (by have := HK.out; show bs.length < s2.pos + M; omega) HZ1.out)
            clear hq c4 c2
            go_wp2_with fail
            refine (H3.out).mono ?_
            rintro r w3 ⟨rfl, h3⟩
            have HL3 : Hid (LpT B w1 rb bv sv bs true (s.pos + 4) (g + 1) X w3) := Lib.hid (by
              rcases HZ2.out with ⟨e, p, hz, hx⟩ | ⟨s3, hz, hx⟩
              · exact .inr ⟨e, p, hx, DEr.behind HW5.out (h3.badE hz)⟩
              · obtain ⟨sv4, s4, j1, j2, j3⟩ := h3.okE hz
                have ht := HZ1.out
                rw [hz] at ht
                have ht := term_out ht
                have e1 : s4.pos = s3.pos := congrArg Rs.pos j3
                have e2 : s4.cells = s3.cells := congrArg Rs.cells j3
                have e3 : s4.out = s3.out := congrArg Rs.out j3
                have hk := HK.out
                simp only [List.length_append, List.length_cons, List.length_nil] at ht
                exact .inl ⟨sv4, s4, HW5.out.trans j1, j2, by omega, by rw [e3]; omega, by omega, by rw [j3]; exact hx⟩)
            clear h3
            go_wp2_with fail
            go_roundg g
            case measure => omega
            case rel => exact ⟨i + 1, by go_num, by have := hIG.out; omega, HL3⟩
      · have HF := Lib.hid k1
        have hE : DEr B w rb bv sv bs e p wr := DEr.behind HW1.out k2
        have HE := Lib.hid hE
        obtain ⟨c4, q1, q2⟩ := hE.why0
        clear k1 k2 hI hE
        cases gk with
        | zero =>
          obtain rfl : i = n := by omega
          go_wp2_with fail
          go_end0
          exact ⟨rfl, ResP.badI HF.out HE.out⟩
        | succ g =>
          have hin : (i : Int) < (n : Int) := by omega
          have qi : decide ((i : Int) < (n : Int)) = true := decide_eq_true hin
          go_wp2_with fail
          go_end0
          exact ⟨rfl, ResP.badI HF.out HE.out⟩
end Go.Proofs.YtkhjdcnlpablkaaDoor

/-! The document's reader: a term. Printed by genDtrm.py. -/
namespace Go.Proofs.YtkhjdcnlpablkaaDoor
open Go.RowKit
open Go.Lib (byteCells)

theorem DPost.fin {B rb : Nat} {w w' : World} {bv sv : Value} {bs : List UInt8} {Y : Res (Rs × Nat × Bool)} {X : Res Rs} {r : Ending} (hX : OneX bs Y X) (h0 : ∀ x, Y = .ok x → x.2 = (0, false)) (h : DPost B w rb bv sv bs Y r w') : DPx B w rb bv sv bs X r w' := by
  refine ⟨h.1, ?_⟩
  cases Y with
  | bad e p => exact ResP.badI hX h.2
  | ok x =>
    have h2 := h0 x rfl
    have hX' : Runs bs x.2.1 x.2.2 x.1 X := hX
    rw [h2] at hX'
    exact ResP.okI (Runs.unique hX' Runs.zero) h.2
theorem made_two {s : Rs} {p tg : Nat} {c : Ce} {x : Rs × Nat × Bool} (h : madeD s p tg c = .ok x) : x.2 = (0, false) := by rw [(madeD_ok h).1]
theorem bind_two {α : Type} {Z : Res α} {f : α → Res (Rs × Nat × Bool)} (hf : ∀ a x, f a = .ok x → x.2 = (0, false)) : ∀ x, Z.bind f = .ok x → x.2 = (0, false) := fun x h => by
  obtain ⟨a, _, h2⟩ := Res.bind_ok h
  exact hf a x h2

theorem sgn_wrap (n : Nat) (h : n < 4294967296) : IntKind.i32.wrap (n : Int) = sgn4 n := by
  rw [IntKind.wrap_i32]
  unfold sgn4
  split <;> omega
theorem sgn_b (n : Nat) (h : n < 4294967296) : -2147483648 ≤ sgn4 n ∧ sgn4 n ≤ 2147483647 := by
  unfold sgn4
  split <;> omega

theorem body97 (bs : List UInt8) (s : Rs) (p : Nat) : bodyD bs s 97 p = (numD bs p 1).bind fun n => madeD s (p + 1) s.pos (intC n) := rfl
theorem body98 (bs : List UInt8) (s : Rs) (p : Nat) : bodyD bs s 98 p = (numD bs p 4).bind fun n => madeD s (p + 4) s.pos (intC (sgn4 n)) := rfl
theorem body118 (bs : List UInt8) (s : Rs) (p : Nat) : bodyD bs s 118 p = (textD bs p 118 s.pos).bind fun x => madeD s x.2 s.pos ⟨2, 0, x.1⟩ := rfl
theorem body119 (bs : List UInt8) (s : Rs) (p : Nat) : bodyD bs s 119 p = (textD bs p 119 s.pos).bind fun x => madeD s x.2 s.pos ⟨2, 0, x.1⟩ := rfl
theorem body105 (bs : List UInt8) (s : Rs) (p : Nat) : bodyD bs s 105 p = (numD bs p 4).bind fun n => if 255 < n then .bad 1 s.pos else (madeD s (p + 4) s.pos ⟨5, n, ⟨#[]⟩⟩).bind fun x => .ok (x.1, n, false) := rfl
theorem body108 (bs : List UInt8) (s : Rs) (p : Nat) : bodyD bs s 108 p = (numD bs p 4).bind fun n => if 1024 < s.cells + n then .bad 7 s.pos else .ok (⟨p + 4, s.cells + n, s.out⟩, n + 1, true) := rfl
theorem body104 (bs : List UInt8) (s : Rs) (p : Nat) : bodyD bs s 104 p = (numD bs p 1).bind fun n => if 255 < n then .bad 1 s.pos else (madeD s (p + 1) s.pos ⟨5, n, ⟨#[]⟩⟩).bind fun x => .ok (x.1, n, false) := by
  have h1 : bodyD bs s 104 p = (numD bs p 1).bind fun n => (madeD s (p + 1) s.pos ⟨5, n, ⟨#[]⟩⟩).bind fun x => .ok (x.1, n, false) := rfl
  rw [h1]
  cases hn : numD bs p 1 with
  | bad e q => rfl
  | ok n =>
    have := num_lt' hn
    simp only [Res.bind]
    rw [if_neg (by omega)]

section
variable (M : Nat) (bs : List UInt8) (ih : DT bs M) (hlen : bs.length ≤ 1048576) (hpos : 1 ≤ bs.length) (B rb : Nat) (bv sv : Value) (s : Ds) (c : UInt8) (w : World) (X : Res Rs) (h : Dp B w rb bv sv bs s) (hst : DSt bs s) (hM : bs.length < s.pos + (M + 1)) (htk : takeD bs s.pos 1 = .ok [c])

include hlen hpos h hst htk in
set_option maxHeartbeats 1600000 in
set_option maxRecDepth 100000 in
theorem dterm_110 (hc : c.toNat = 110) (hX : OneX bs (bodyD bs s.rs 110 (s.pos + 1)) X) : Calls Tryd.prog 32 #[.pointer (some ⟨rb, 0, none⟩)] w (DPx B w rb bv sv bs X) := by
  have HST := Lib.hid hst
  have HH1 := Lib.hid (callsOk (dtake_any B rb bv sv bs s 1 hlen hpos (by omega) w h hst.why) htk)
  have HX := Lib.hid hX
  have hcc : (byteCells [c])[0]? = some (.int .u8 110) := by unfold byteCells; simp [hc]
  obtain ⟨c0, c1, c2, c3, c4, c5⟩ := Ds.cell h.blk
  obtain ⟨at', hat⟩ : ∃ at', s.pos = at' := ⟨_, rfl⟩
  rw [hat] at c1
  have HAT := Lib.hid hat
  have hso := hst.out
  have hcl := hst.cells
  have hple := (takeD_ok htk).1
  clear hX hc htk h hst hat c0 c2 c3 c4 c5
  go_enter Tryd.func32, Tryd.ntmps32
  go_wp2_with fail
  refine (HH1.out).mono ?_
  rintro r w1 ⟨_, ⟨g, off, cap, rfl, hrd⟩, h1⟩
  obtain ⟨g', off', cap', hv, hr1, hr2, hr3⟩ := hrd.now.at (by omega)
  simp at hv
  obtain ⟨⟨rfl, rfl⟩, rfl⟩ := hv
  have d0 := hr3 0 (by omega)
  rw [hcc, Nat.add_zero] at d0
  have HRD := Lib.hid hrd
  have HW1 := Lib.hid h1
  have hs1 : DSt bs { s with pos := s.pos + 1 } := ⟨HST.out.why, HST.out.cells, by show s.out.length ≤ s.cells + (s.pos + 1) + 1; omega⟩
  clear hr1 hr2 hr3 h1 hrd hcc HH1 c1
  have H2 := Lib.hid (dbig_any B rb bv sv bs _ at' hlen hpos w1 HW1.out.rp HST.out.why HST.out.cells (by simp only; omega))
  clear hs1
  go_wp2_with fail
  refine (H2.out).mono ?_
  rintro r w3 h3
  obtain rfl := h3.1
  have HP := Lib.hid h3
  clear h3
  go_wp2_with fail
  go_end0
  rw [← HAT.out] at HP
  exact DPx.behind HW1.out (DPost.fin HX.out (bind_two fun _ _ h => made_two h) ⟨rfl, HP.out.2⟩)

include hlen hpos h hst htk in
set_option maxHeartbeats 1600000 in
set_option maxRecDepth 100000 in
theorem dterm_88 (hc : c.toNat = 88) (hX : OneX bs (bodyD bs s.rs 88 (s.pos + 1)) X) : Calls Tryd.prog 32 #[.pointer (some ⟨rb, 0, none⟩)] w (DPx B w rb bv sv bs X) := by
  have HST := Lib.hid hst
  have HH1 := Lib.hid (callsOk (dtake_any B rb bv sv bs s 1 hlen hpos (by omega) w h hst.why) htk)
  have HX := Lib.hid hX
  have hcc : (byteCells [c])[0]? = some (.int .u8 88) := by unfold byteCells; simp [hc]
  obtain ⟨c0, c1, c2, c3, c4, c5⟩ := Ds.cell h.blk
  obtain ⟨at', hat⟩ : ∃ at', s.pos = at' := ⟨_, rfl⟩
  rw [hat] at c1
  have HAT := Lib.hid hat
  have hso := hst.out
  have hcl := hst.cells
  have hple := (takeD_ok htk).1
  clear hX hc htk h hst hat c0 c2 c3 c4 c5
  go_enter Tryd.func32, Tryd.ntmps32
  go_wp2_with fail
  refine (HH1.out).mono ?_
  rintro r w1 ⟨_, ⟨g, off, cap, rfl, hrd⟩, h1⟩
  obtain ⟨g', off', cap', hv, hr1, hr2, hr3⟩ := hrd.now.at (by omega)
  simp at hv
  obtain ⟨⟨rfl, rfl⟩, rfl⟩ := hv
  have d0 := hr3 0 (by omega)
  rw [hcc, Nat.add_zero] at d0
  have HRD := Lib.hid hrd
  have HW1 := Lib.hid h1
  have hs1 : DSt bs { s with pos := s.pos + 1 } := ⟨HST.out.why, HST.out.cells, by show s.out.length ≤ s.cells + (s.pos + 1) + 1; omega⟩
  clear hr1 hr2 hr3 h1 hrd hcc HH1 c1
  have H2 := Lib.hid (dpid_any B rb bv sv bs _ at' hlen hpos w1 HW1.out.rp HST.out.why HST.out.cells (by simp only; omega))
  clear hs1
  go_wp2_with fail
  refine (H2.out).mono ?_
  rintro r w3 h3
  obtain rfl := h3.1
  have HP := Lib.hid h3
  clear h3
  go_wp2_with fail
  go_end0
  rw [← HAT.out] at HP
  exact DPx.behind HW1.out (DPost.fin HX.out (bind_two fun _ _ h => made_two h) ⟨rfl, HP.out.2⟩)

include hlen hpos h hst htk in
set_option maxHeartbeats 1600000 in
set_option maxRecDepth 100000 in
theorem dterm_90 (hc : c.toNat = 90) (hX : OneX bs (bodyD bs s.rs 90 (s.pos + 1)) X) : Calls Tryd.prog 32 #[.pointer (some ⟨rb, 0, none⟩)] w (DPx B w rb bv sv bs X) := by
  have HST := Lib.hid hst
  have HH1 := Lib.hid (callsOk (dtake_any B rb bv sv bs s 1 hlen hpos (by omega) w h hst.why) htk)
  have HX := Lib.hid hX
  have hcc : (byteCells [c])[0]? = some (.int .u8 90) := by unfold byteCells; simp [hc]
  obtain ⟨c0, c1, c2, c3, c4, c5⟩ := Ds.cell h.blk
  obtain ⟨at', hat⟩ : ∃ at', s.pos = at' := ⟨_, rfl⟩
  rw [hat] at c1
  have HAT := Lib.hid hat
  have hso := hst.out
  have hcl := hst.cells
  have hple := (takeD_ok htk).1
  clear hX hc htk h hst hat c0 c2 c3 c4 c5
  go_enter Tryd.func32, Tryd.ntmps32
  go_wp2_with fail
  refine (HH1.out).mono ?_
  rintro r w1 ⟨_, ⟨g, off, cap, rfl, hrd⟩, h1⟩
  obtain ⟨g', off', cap', hv, hr1, hr2, hr3⟩ := hrd.now.at (by omega)
  simp at hv
  obtain ⟨⟨rfl, rfl⟩, rfl⟩ := hv
  have d0 := hr3 0 (by omega)
  rw [hcc, Nat.add_zero] at d0
  have HRD := Lib.hid hrd
  have HW1 := Lib.hid h1
  have hs1 : DSt bs { s with pos := s.pos + 1 } := ⟨HST.out.why, HST.out.cells, by show s.out.length ≤ s.cells + (s.pos + 1) + 1; omega⟩
  clear hr1 hr2 hr3 h1 hrd hcc HH1 c1
  have H2 := Lib.hid (dref_any B rb bv sv bs _ at' hlen hpos w1 HW1.out.rp HST.out.why HST.out.cells (by simp only; omega))
  clear hs1
  go_wp2_with fail
  refine (H2.out).mono ?_
  rintro r w3 h3
  obtain rfl := h3.1
  have HP := Lib.hid h3
  clear h3
  go_wp2_with fail
  go_end0
  rw [← HAT.out] at HP
  exact DPx.behind HW1.out (DPost.fin HX.out (bind_two fun _ _ h => made_two h) ⟨rfl, HP.out.2⟩)

include hlen hpos h hst htk in
set_option maxHeartbeats 1600000 in
set_option maxRecDepth 100000 in
theorem dterm_109 (hc : c.toNat = 109) (hX : OneX bs (bodyD bs s.rs 109 (s.pos + 1)) X) : Calls Tryd.prog 32 #[.pointer (some ⟨rb, 0, none⟩)] w (DPx B w rb bv sv bs X) := by
  have HST := Lib.hid hst
  have HH1 := Lib.hid (callsOk (dtake_any B rb bv sv bs s 1 hlen hpos (by omega) w h hst.why) htk)
  have HX := Lib.hid hX
  have hcc : (byteCells [c])[0]? = some (.int .u8 109) := by unfold byteCells; simp [hc]
  obtain ⟨c0, c1, c2, c3, c4, c5⟩ := Ds.cell h.blk
  obtain ⟨at', hat⟩ : ∃ at', s.pos = at' := ⟨_, rfl⟩
  rw [hat] at c1
  have HAT := Lib.hid hat
  have hso := hst.out
  have hcl := hst.cells
  have hple := (takeD_ok htk).1
  clear hX hc htk h hst hat c0 c2 c3 c4 c5
  go_enter Tryd.func32, Tryd.ntmps32
  go_wp2_with fail
  refine (HH1.out).mono ?_
  rintro r w1 ⟨_, ⟨g, off, cap, rfl, hrd⟩, h1⟩
  obtain ⟨g', off', cap', hv, hr1, hr2, hr3⟩ := hrd.now.at (by omega)
  simp at hv
  obtain ⟨⟨rfl, rfl⟩, rfl⟩ := hv
  have d0 := hr3 0 (by omega)
  rw [hcc, Nat.add_zero] at d0
  have HRD := Lib.hid hrd
  have HW1 := Lib.hid h1
  have hs1 : DSt bs { s with pos := s.pos + 1 } := ⟨HST.out.why, HST.out.cells, by show s.out.length ≤ s.cells + (s.pos + 1) + 1; omega⟩
  clear hr1 hr2 hr3 h1 hrd hcc HH1 c1
  have H2 := Lib.hid (dbin_any B rb bv sv bs _ at' hlen hpos w1 HW1.out.rp HST.out.why HST.out.cells (by simp only; omega))
  clear hs1
  go_wp2_with fail
  refine (H2.out).mono ?_
  rintro r w3 h3
  obtain rfl := h3.1
  have HP := Lib.hid h3
  clear h3
  go_wp2_with fail
  go_end0
  rw [← HAT.out] at HP
  exact DPx.behind HW1.out (DPost.fin HX.out (bind_two fun _ => bind_two fun _ x h => by split at h; cases h; exact made_two h) ⟨rfl, HP.out.2⟩)

include hlen hpos h hst htk in
set_option maxHeartbeats 1600000 in
set_option maxRecDepth 100000 in
theorem dterm_107 (hc : c.toNat = 107) (hX : OneX bs (bodyD bs s.rs 107 (s.pos + 1)) X) : Calls Tryd.prog 32 #[.pointer (some ⟨rb, 0, none⟩)] w (DPx B w rb bv sv bs X) := by
  have HST := Lib.hid hst
  have HH1 := Lib.hid (callsOk (dtake_any B rb bv sv bs s 1 hlen hpos (by omega) w h hst.why) htk)
  have HX := Lib.hid hX
  have hcc : (byteCells [c])[0]? = some (.int .u8 107) := by unfold byteCells; simp [hc]
  obtain ⟨c0, c1, c2, c3, c4, c5⟩ := Ds.cell h.blk
  obtain ⟨at', hat⟩ : ∃ at', s.pos = at' := ⟨_, rfl⟩
  rw [hat] at c1
  have HAT := Lib.hid hat
  have hso := hst.out
  have hcl := hst.cells
  have hple := (takeD_ok htk).1
  clear hX hc htk h hst hat c0 c2 c3 c4 c5
  go_enter Tryd.func32, Tryd.ntmps32
  go_wp2_with fail
  refine (HH1.out).mono ?_
  rintro r w1 ⟨_, ⟨g, off, cap, rfl, hrd⟩, h1⟩
  obtain ⟨g', off', cap', hv, hr1, hr2, hr3⟩ := hrd.now.at (by omega)
  simp at hv
  obtain ⟨⟨rfl, rfl⟩, rfl⟩ := hv
  have d0 := hr3 0 (by omega)
  rw [hcc, Nat.add_zero] at d0
  have HRD := Lib.hid hrd
  have HW1 := Lib.hid h1
  have hs1 : DSt bs { s with pos := s.pos + 1 } := ⟨HST.out.why, HST.out.cells, by show s.out.length ≤ s.cells + (s.pos + 1) + 1; omega⟩
  clear hr1 hr2 hr3 h1 hrd hcc HH1 c1
  have H2 := Lib.hid (dsmall_any B rb bv sv bs _ at' hlen hpos w1 HW1.out.rp HST.out.why HST.out.cells (by simp only; omega))
  clear hs1
  go_wp2_with fail
  refine (H2.out).mono ?_
  rintro r w3 h3
  obtain rfl := h3.1
  have HP := Lib.hid h3
  clear h3
  go_wp2_with fail
  go_end0
  rw [← HAT.out] at HP
  exact DPx.behind HW1.out (DPost.fin HX.out (bind_two fun _ => bind_two fun _ x h => by split at h; cases h; cases h; rfl) ⟨rfl, HP.out.2⟩)

include hlen hpos h hst htk in
set_option maxHeartbeats 1600000 in
set_option maxRecDepth 100000 in
theorem dterm_106 (hc : c.toNat = 106) (hX : OneX bs (bodyD bs s.rs 106 (s.pos + 1)) X) : Calls Tryd.prog 32 #[.pointer (some ⟨rb, 0, none⟩)] w (DPx B w rb bv sv bs X) := by
  have HST := Lib.hid hst
  have HH1 := Lib.hid (callsOk (dtake_any B rb bv sv bs s 1 hlen hpos (by omega) w h hst.why) htk)
  have HX := Lib.hid hX
  have hcc : (byteCells [c])[0]? = some (.int .u8 106) := by unfold byteCells; simp [hc]
  obtain ⟨c0, c1, c2, c3, c4, c5⟩ := Ds.cell h.blk
  obtain ⟨at', hat⟩ : ∃ at', s.pos = at' := ⟨_, rfl⟩
  rw [hat] at c1
  have HAT := Lib.hid hat
  have hso := hst.out
  have hcl := hst.cells
  have hple := (takeD_ok htk).1
  clear hX hc htk h hst hat c0 c2 c3 c4 c5
  go_enter Tryd.func32, Tryd.ntmps32
  go_wp2_with fail
  refine (HH1.out).mono ?_
  rintro r w1 ⟨_, ⟨g, off, cap, rfl, hrd⟩, h1⟩
  obtain ⟨g', off', cap', hv, hr1, hr2, hr3⟩ := hrd.now.at (by omega)
  simp at hv
  obtain ⟨⟨rfl, rfl⟩, rfl⟩ := hv
  have d0 := hr3 0 (by omega)
  rw [hcc, Nat.add_zero] at d0
  have HRD := Lib.hid hrd
  have HW1 := Lib.hid h1
  have hs1 : DSt bs { s with pos := s.pos + 1 } := ⟨HST.out.why, HST.out.cells, by show s.out.length ≤ s.cells + (s.pos + 1) + 1; omega⟩
  clear hr1 hr2 hr3 h1 hrd hcc HH1 c1
  have H2 := Lib.hid (dleaf_made B rb bv sv bs _ 6 0 ⟨#[]⟩ at' w1 HW1.out.rp HST.out.why HST.out.cells (by simp only; omega))
  clear hs1
  go_wp2_with fail
  refine (H2.out).mono ?_
  rintro r w3 h3
  obtain rfl := h3.1
  have HP := Lib.hid h3
  clear h3
  go_wp2_with fail
  go_end0
  rw [← HAT.out] at HP
  exact DPx.behind HW1.out (DPost.fin HX.out (fun _ h => made_two h) ⟨rfl, HP.out.2⟩)

include hlen hpos h hst htk ih hM in
set_option maxHeartbeats 1600000 in
set_option maxRecDepth 100000 in
theorem dterm_104 (hc : c.toNat = 104) (hX : OneX bs (bodyD bs s.rs 104 (s.pos + 1)) X) : Calls Tryd.prog 32 #[.pointer (some ⟨rb, 0, none⟩)] w (DPx B w rb bv sv bs X) := by
  have HST := Lib.hid hst
  have HH1 := Lib.hid (callsOk (dtake_any B rb bv sv bs s 1 hlen hpos (by omega) w h hst.why) htk)
  have HX := Lib.hid hX
  have hcc : (byteCells [c])[0]? = some (.int .u8 104) := by unfold byteCells; simp [hc]
  obtain ⟨c0, c1, c2, c3, c4, c5⟩ := Ds.cell h.blk
  obtain ⟨at', hat⟩ : ∃ at', s.pos = at' := ⟨_, rfl⟩
  rw [hat] at c1
  have HAT := Lib.hid hat
  have hso := hst.out
  have hcl := hst.cells
  have hple := (takeD_ok htk).1
  clear hX hc htk h hst hat c0 c2 c3 c4 c5
  go_enter Tryd.func32, Tryd.ntmps32
  go_wp2_with fail
  refine (HH1.out).mono ?_
  rintro r w1 ⟨_, ⟨g, off, cap, rfl, hrd⟩, h1⟩
  obtain ⟨g', off', cap', hv, hr1, hr2, hr3⟩ := hrd.now.at (by omega)
  simp at hv
  obtain ⟨⟨rfl, rfl⟩, rfl⟩ := hv
  have d0 := hr3 0 (by omega)
  rw [hcc, Nat.add_zero] at d0
  have HRD := Lib.hid hrd
  have HW1 := Lib.hid h1
  have hs1 : DSt bs { s with pos := s.pos + 1 } := ⟨HST.out.why, HST.out.cells, by show s.out.length ≤ s.cells + (s.pos + 1) + 1; omega⟩
  clear hr1 hr2 hr3 h1 hrd hcc HH1 c1
  have H2 := Lib.hid (dtuple_any M bs ih hlen hpos B rb bv sv _ 1 at' (.inl rfl) w1 X HW1.out.rp hs1 (by show bs.length ≤ s.pos + 1 + M; omega) (by have hx := HX.out; rw [body104] at hx; rw [← HAT.out]; exact hx))
  clear hs1
  go_wp2_with fail
  refine (H2.out).mono ?_
  rintro r w3 h3
  obtain rfl := h3.1
  have HP := Lib.hid h3
  clear h3
  go_wp2_with fail
  go_end0
  exact DPx.behind HW1.out HP.out

include hlen hpos h hst htk ih hM in
set_option maxHeartbeats 1600000 in
set_option maxRecDepth 100000 in
theorem dterm_105 (hc : c.toNat = 105) (hX : OneX bs (bodyD bs s.rs 105 (s.pos + 1)) X) : Calls Tryd.prog 32 #[.pointer (some ⟨rb, 0, none⟩)] w (DPx B w rb bv sv bs X) := by
  have HST := Lib.hid hst
  have HH1 := Lib.hid (callsOk (dtake_any B rb bv sv bs s 1 hlen hpos (by omega) w h hst.why) htk)
  have HX := Lib.hid hX
  have hcc : (byteCells [c])[0]? = some (.int .u8 105) := by unfold byteCells; simp [hc]
  obtain ⟨c0, c1, c2, c3, c4, c5⟩ := Ds.cell h.blk
  obtain ⟨at', hat⟩ : ∃ at', s.pos = at' := ⟨_, rfl⟩
  rw [hat] at c1
  have HAT := Lib.hid hat
  have hso := hst.out
  have hcl := hst.cells
  have hple := (takeD_ok htk).1
  clear hX hc htk h hst hat c0 c2 c3 c4 c5
  go_enter Tryd.func32, Tryd.ntmps32
  go_wp2_with fail
  refine (HH1.out).mono ?_
  rintro r w1 ⟨_, ⟨g, off, cap, rfl, hrd⟩, h1⟩
  obtain ⟨g', off', cap', hv, hr1, hr2, hr3⟩ := hrd.now.at (by omega)
  simp at hv
  obtain ⟨⟨rfl, rfl⟩, rfl⟩ := hv
  have d0 := hr3 0 (by omega)
  rw [hcc, Nat.add_zero] at d0
  have HRD := Lib.hid hrd
  have HW1 := Lib.hid h1
  have hs1 : DSt bs { s with pos := s.pos + 1 } := ⟨HST.out.why, HST.out.cells, by show s.out.length ≤ s.cells + (s.pos + 1) + 1; omega⟩
  clear hr1 hr2 hr3 h1 hrd hcc HH1 c1
  have H2 := Lib.hid (dtuple_any M bs ih hlen hpos B rb bv sv _ 4 at' (.inr rfl) w1 X HW1.out.rp hs1 (by show bs.length ≤ s.pos + 1 + M; omega) (by have hx := HX.out; rw [body105] at hx; rw [← HAT.out]; exact hx))
  clear hs1
  go_wp2_with fail
  refine (H2.out).mono ?_
  rintro r w3 h3
  obtain rfl := h3.1
  have HP := Lib.hid h3
  clear h3
  go_wp2_with fail
  go_end0
  exact DPx.behind HW1.out HP.out

include hlen hpos h hst htk ih hM in
set_option maxHeartbeats 1600000 in
set_option maxRecDepth 100000 in
theorem dterm_108 (hc : c.toNat = 108) (hX : OneX bs (bodyD bs s.rs 108 (s.pos + 1)) X) : Calls Tryd.prog 32 #[.pointer (some ⟨rb, 0, none⟩)] w (DPx B w rb bv sv bs X) := by
  have HST := Lib.hid hst
  have HH1 := Lib.hid (callsOk (dtake_any B rb bv sv bs s 1 hlen hpos (by omega) w h hst.why) htk)
  have HX := Lib.hid hX
  have hcc : (byteCells [c])[0]? = some (.int .u8 108) := by unfold byteCells; simp [hc]
  obtain ⟨c0, c1, c2, c3, c4, c5⟩ := Ds.cell h.blk
  obtain ⟨at', hat⟩ : ∃ at', s.pos = at' := ⟨_, rfl⟩
  rw [hat] at c1
  have HAT := Lib.hid hat
  have hso := hst.out
  have hcl := hst.cells
  have hple := (takeD_ok htk).1
  clear hX hc htk h hst hat c0 c2 c3 c4 c5
  go_enter Tryd.func32, Tryd.ntmps32
  go_wp2_with fail
  refine (HH1.out).mono ?_
  rintro r w1 ⟨_, ⟨g, off, cap, rfl, hrd⟩, h1⟩
  obtain ⟨g', off', cap', hv, hr1, hr2, hr3⟩ := hrd.now.at (by omega)
  simp at hv
  obtain ⟨⟨rfl, rfl⟩, rfl⟩ := hv
  have d0 := hr3 0 (by omega)
  rw [hcc, Nat.add_zero] at d0
  have HRD := Lib.hid hrd
  have HW1 := Lib.hid h1
  have hs1 : DSt bs { s with pos := s.pos + 1 } := ⟨HST.out.why, HST.out.cells, by show s.out.length ≤ s.cells + (s.pos + 1) + 1; omega⟩
  clear hr1 hr2 hr3 h1 hrd hcc HH1 c1
  have H2 := Lib.hid (dlist_any M bs ih hlen hpos B rb bv sv _ at' w1 X HW1.out.rp hs1 (by show s.out.length ≤ s.cells + (s.pos + 1); omega) (by show bs.length ≤ s.pos + 1 + M; omega) (by have hx := HX.out; rw [body108] at hx; rw [← HAT.out]; exact hx))
  clear hs1
  go_wp2_with fail
  refine (H2.out).mono ?_
  rintro r w3 h3
  obtain rfl := h3.1
  have HP := Lib.hid h3
  clear h3
  go_wp2_with fail
  go_end0
  exact DPx.behind HW1.out HP.out

include hlen hpos h hst htk in
set_option maxHeartbeats 1600000 in
set_option maxRecDepth 100000 in
theorem dterm_97 (hc : c.toNat = 97) (hX : OneX bs (bodyD bs s.rs 97 (s.pos + 1)) X) : Calls Tryd.prog 32 #[.pointer (some ⟨rb, 0, none⟩)] w (DPx B w rb bv sv bs X) := by
  have HST := Lib.hid hst
  have HH1 := Lib.hid (callsOk (dtake_any B rb bv sv bs s 1 hlen hpos (by omega) w h hst.why) htk)
  have HX := Lib.hid hX
  have hcc : (byteCells [c])[0]? = some (.int .u8 97) := by unfold byteCells; simp [hc]
  obtain ⟨c0, c1, c2, c3, c4, c5⟩ := Ds.cell h.blk
  obtain ⟨at', hat⟩ : ∃ at', s.pos = at' := ⟨_, rfl⟩
  rw [hat] at c1
  have HAT := Lib.hid hat
  have hso := hst.out
  have hcl := hst.cells
  have hple := (takeD_ok htk).1
  clear hX hc htk h hst hat c0 c2 c3 c4 c5
  go_enter Tryd.func32, Tryd.ntmps32
  go_wp2_with fail
  refine (HH1.out).mono ?_
  rintro r w1 ⟨_, ⟨g, off, cap, rfl, hrd⟩, h1⟩
  obtain ⟨g', off', cap', hv, hr1, hr2, hr3⟩ := hrd.now.at (by omega)
  simp at hv
  obtain ⟨⟨rfl, rfl⟩, rfl⟩ := hv
  have d0 := hr3 0 (by omega)
  rw [hcc, Nat.add_zero] at d0
  have HRD := Lib.hid hrd
  have HW1 := Lib.hid h1
  have hs1 : DSt bs { s with pos := s.pos + 1 } := ⟨HST.out.why, HST.out.cells, by show s.out.length ≤ s.cells + (s.pos + 1) + 1; omega⟩
  clear hr1 hr2 hr3 h1 hrd hcc HH1 c1
  cases hn : numD bs (s.pos + 1) 1 with
  | bad e p =>
    have HF : Hid (X = .bad e p) := Lib.hid (by have hx := HX.out; rw [body97, hn] at hx; exact hx)
    have H2 := Lib.hid (callsBad (dnum_any B rb bv sv bs _ 1 hlen hpos (by omega) w1 HW1.out.rp HST.out.why) hn)
    clear hn hs1
    go_wp2_with fail
    refine (H2.out).mono ?_
    rintro r w2 ⟨rfl, hE⟩
    have HE := Lib.hid (DEr.behind HW1.out hE)
    clear hE
    go_wp2_with fail
    go_end0
    exact ⟨rfl, ResP.badI HF.out HE.out⟩
  | ok n =>
    have hnb := num_lt' hn
    have HX2 : Hid (OneX bs (madeD s.rs (s.pos + 1 + 1) s.pos (intC (n : Int))) X) := Lib.hid (by have hx := HX.out; rw [body97, hn] at hx; exact hx)
    have H2 := Lib.hid (callsOk (dnum_any B rb bv sv bs _ 1 hlen hpos (by omega) w1 HW1.out.rp HST.out.why) hn)
    clear hn hs1
    go_wp2_with fail
    refine (H2.out).mono ?_
    rintro r w2 ⟨rfl, h2⟩
    have H3 := Lib.hid (dleaf_made B rb bv sv bs _ 1 (n : Int) ⟨#[]⟩ at' w2 h2.rp HST.out.why HST.out.cells (by simp only; omega))
    have HW2 := Lib.hid (HW1.out.trans h2)
    clear h2
    go_wp2_with fail
    refine (H3.out).mono ?_
    rintro r w3 h3
    obtain rfl := h3.1
    have HP := Lib.hid h3
    clear h3
    go_wp2_with fail
    go_end0
    rw [← HAT.out] at HP
    exact DPx.behind HW2.out (DPost.fin HX2.out (fun _ h => made_two h) ⟨rfl, HP.out.2⟩)

include hlen hpos h hst htk in
set_option maxHeartbeats 1600000 in
set_option maxRecDepth 100000 in
theorem dterm_98 (hc : c.toNat = 98) (hX : OneX bs (bodyD bs s.rs 98 (s.pos + 1)) X) : Calls Tryd.prog 32 #[.pointer (some ⟨rb, 0, none⟩)] w (DPx B w rb bv sv bs X) := by
  have HST := Lib.hid hst
  have HH1 := Lib.hid (callsOk (dtake_any B rb bv sv bs s 1 hlen hpos (by omega) w h hst.why) htk)
  have HX := Lib.hid hX
  have hcc : (byteCells [c])[0]? = some (.int .u8 98) := by unfold byteCells; simp [hc]
  obtain ⟨c0, c1, c2, c3, c4, c5⟩ := Ds.cell h.blk
  obtain ⟨at', hat⟩ : ∃ at', s.pos = at' := ⟨_, rfl⟩
  rw [hat] at c1
  have HAT := Lib.hid hat
  have hso := hst.out
  have hcl := hst.cells
  have hple := (takeD_ok htk).1
  clear hX hc htk h hst hat c0 c2 c3 c4 c5
  go_enter Tryd.func32, Tryd.ntmps32
  go_wp2_with fail
  refine (HH1.out).mono ?_
  rintro r w1 ⟨_, ⟨g, off, cap, rfl, hrd⟩, h1⟩
  obtain ⟨g', off', cap', hv, hr1, hr2, hr3⟩ := hrd.now.at (by omega)
  simp at hv
  obtain ⟨⟨rfl, rfl⟩, rfl⟩ := hv
  have d0 := hr3 0 (by omega)
  rw [hcc, Nat.add_zero] at d0
  have HRD := Lib.hid hrd
  have HW1 := Lib.hid h1
  have hs1 : DSt bs { s with pos := s.pos + 1 } := ⟨HST.out.why, HST.out.cells, by show s.out.length ≤ s.cells + (s.pos + 1) + 1; omega⟩
  clear hr1 hr2 hr3 h1 hrd hcc HH1 c1
  cases hn : numD bs (s.pos + 1) 4 with
  | bad e p =>
    have HF : Hid (X = .bad e p) := Lib.hid (by have hx := HX.out; rw [body98, hn] at hx; exact hx)
    have H2 := Lib.hid (callsBad (dnum_any B rb bv sv bs _ 4 hlen hpos (by omega) w1 HW1.out.rp HST.out.why) hn)
    clear hn hs1
    go_wp2_with fail
    refine (H2.out).mono ?_
    rintro r w2 ⟨rfl, hE⟩
    have HE := Lib.hid (DEr.behind HW1.out hE)
    clear hE
    go_wp2_with fail
    go_end0
    exact ⟨rfl, ResP.badI HF.out HE.out⟩
  | ok n =>
    have hnb := num_lt' hn
    have HX2 : Hid (OneX bs (madeD s.rs (s.pos + 1 + 4) s.pos (intC (sgn4 n))) X) := Lib.hid (by have hx := HX.out; rw [body98, hn] at hx; exact hx)
    have H2 := Lib.hid (callsOk (dnum_any B rb bv sv bs _ 4 hlen hpos (by omega) w1 HW1.out.rp HST.out.why) hn)
    have hsg := sgn_wrap n (by omega)
    have hsb := sgn_b n (by omega)
    obtain ⟨z, hz⟩ : ∃ z, sgn4 n = z := ⟨_, rfl⟩
    rw [hz] at hsg hsb HX2
    have hsq : IntKind.i64.wrap z = z := by rw [IntKind.wrap_i64]; omega
    clear hz
    clear hn hs1
    go_wp2_with fail
    refine (H2.out).mono ?_
    rintro r w2 ⟨rfl, h2⟩
    have H3 := Lib.hid (dleaf_made B rb bv sv bs _ 1 z ⟨#[]⟩ at' w2 h2.rp HST.out.why HST.out.cells (by simp only; omega))
    have HW2 := Lib.hid (HW1.out.trans h2)
    clear h2
    go_wp2_with fail
    refine (H3.out).mono ?_
    rintro r w3 h3
    obtain rfl := h3.1
    have HP := Lib.hid h3
    clear h3
    go_wp2_with fail
    go_end0
    rw [← HAT.out] at HP
    exact DPx.behind HW2.out (DPost.fin HX2.out (fun _ h => made_two h) ⟨rfl, HP.out.2⟩)

include hlen hpos h hst htk in
set_option maxHeartbeats 1600000 in
set_option maxRecDepth 100000 in
theorem dterm_118 (hc : c.toNat = 118) (hX : OneX bs (bodyD bs s.rs 118 (s.pos + 1)) X) : Calls Tryd.prog 32 #[.pointer (some ⟨rb, 0, none⟩)] w (DPx B w rb bv sv bs X) := by
  have HST := Lib.hid hst
  have HH1 := Lib.hid (callsOk (dtake_any B rb bv sv bs s 1 hlen hpos (by omega) w h hst.why) htk)
  have HX := Lib.hid hX
  have hcc : (byteCells [c])[0]? = some (.int .u8 118) := by unfold byteCells; simp [hc]
  obtain ⟨c0, c1, c2, c3, c4, c5⟩ := Ds.cell h.blk
  obtain ⟨at', hat⟩ : ∃ at', s.pos = at' := ⟨_, rfl⟩
  rw [hat] at c1
  have HAT := Lib.hid hat
  have hso := hst.out
  have hcl := hst.cells
  have hple := (takeD_ok htk).1
  clear hX hc htk h hst hat c0 c2 c3 c4 c5
  go_enter Tryd.func32, Tryd.ntmps32
  go_wp2_with fail
  refine (HH1.out).mono ?_
  rintro r w1 ⟨_, ⟨g, off, cap, rfl, hrd⟩, h1⟩
  obtain ⟨g', off', cap', hv, hr1, hr2, hr3⟩ := hrd.now.at (by omega)
  simp at hv
  obtain ⟨⟨rfl, rfl⟩, rfl⟩ := hv
  have d0 := hr3 0 (by omega)
  rw [hcc, Nat.add_zero] at d0
  have HRD := Lib.hid hrd
  have HW1 := Lib.hid h1
  have hs1 : DSt bs { s with pos := s.pos + 1 } := ⟨HST.out.why, HST.out.cells, by show s.out.length ≤ s.cells + (s.pos + 1) + 1; omega⟩
  clear hr1 hr2 hr3 h1 hrd hcc HH1 c1
  cases hn : textD bs (s.pos + 1) 118 s.pos with
  | bad e p =>
    have HF : Hid (X = .bad e p) := Lib.hid (by have hx := HX.out; rw [body118, show s.rs.pos = s.pos from rfl, hn] at hx; exact hx)
    rw [HAT.out] at hn
    have H2 := Lib.hid (callsBad (dtext_any B rb bv sv bs _ 118 at' (by omega) hlen hpos w1 HW1.out.rp HST.out.why) (by rw [HAT.out]; exact hn))
    clear hn hs1
    go_wp2_with fail
    refine (H2.out).mono ?_
    rintro r w2 ⟨⟨str, rfl⟩, hE⟩
    have hE2 := DEr.behind HW1.out hE
    have HE := Lib.hid hE2
    obtain ⟨c4, q1, q2⟩ := hE2.why0
    clear hE hE2
    go_wp2_with fail
    go_end0
    exact ⟨rfl, ResP.badI HF.out HE.out⟩
  | ok x =>
    have HX2 : Hid (OneX bs (madeD s.rs x.2 s.pos ⟨2, 0, x.1⟩) X) := Lib.hid (by have hx := HX.out; rw [body118, show s.rs.pos = s.pos from rfl, hn] at hx; exact hx)
    rw [HAT.out] at hn
    have H2 := Lib.hid (callsOk (dtext_any B rb bv sv bs _ 118 at' (by omega) hlen hpos w1 HW1.out.rp HST.out.why) (by rw [HAT.out]; exact hn))
    clear hn hs1
    go_wp2_with fail
    refine (H2.out).mono ?_
    rintro r w2 ⟨rfl, h2⟩
    have H3 := Lib.hid (dleaf_made B rb bv sv bs _ 2 0 x.1 at' w2 h2.rp HST.out.why HST.out.cells (by simp only; omega))
    have c4 := (Ds.cell h2.rp.blk).2.2.2.2.1
    simp only at c4
    rw [HST.out.why] at c4
    have HW2 := Lib.hid (HW1.out.trans h2)
    clear h2
    go_wp2_with fail
    refine (H3.out).mono ?_
    rintro r w3 h3
    obtain rfl := h3.1
    have HP := Lib.hid h3
    clear h3
    go_wp2_with fail
    go_end0
    rw [← HAT.out] at HP
    exact DPx.behind HW2.out (DPost.fin HX2.out (fun _ h => made_two h) ⟨rfl, HP.out.2⟩)

include hlen hpos h hst htk in
set_option maxHeartbeats 1600000 in
set_option maxRecDepth 100000 in
theorem dterm_119 (hc : c.toNat = 119) (hX : OneX bs (bodyD bs s.rs 119 (s.pos + 1)) X) : Calls Tryd.prog 32 #[.pointer (some ⟨rb, 0, none⟩)] w (DPx B w rb bv sv bs X) := by
  have HST := Lib.hid hst
  have HH1 := Lib.hid (callsOk (dtake_any B rb bv sv bs s 1 hlen hpos (by omega) w h hst.why) htk)
  have HX := Lib.hid hX
  have hcc : (byteCells [c])[0]? = some (.int .u8 119) := by unfold byteCells; simp [hc]
  obtain ⟨c0, c1, c2, c3, c4, c5⟩ := Ds.cell h.blk
  obtain ⟨at', hat⟩ : ∃ at', s.pos = at' := ⟨_, rfl⟩
  rw [hat] at c1
  have HAT := Lib.hid hat
  have hso := hst.out
  have hcl := hst.cells
  have hple := (takeD_ok htk).1
  clear hX hc htk h hst hat c0 c2 c3 c4 c5
  go_enter Tryd.func32, Tryd.ntmps32
  go_wp2_with fail
  refine (HH1.out).mono ?_
  rintro r w1 ⟨_, ⟨g, off, cap, rfl, hrd⟩, h1⟩
  obtain ⟨g', off', cap', hv, hr1, hr2, hr3⟩ := hrd.now.at (by omega)
  simp at hv
  obtain ⟨⟨rfl, rfl⟩, rfl⟩ := hv
  have d0 := hr3 0 (by omega)
  rw [hcc, Nat.add_zero] at d0
  have HRD := Lib.hid hrd
  have HW1 := Lib.hid h1
  have hs1 : DSt bs { s with pos := s.pos + 1 } := ⟨HST.out.why, HST.out.cells, by show s.out.length ≤ s.cells + (s.pos + 1) + 1; omega⟩
  clear hr1 hr2 hr3 h1 hrd hcc HH1 c1
  cases hn : textD bs (s.pos + 1) 119 s.pos with
  | bad e p =>
    have HF : Hid (X = .bad e p) := Lib.hid (by have hx := HX.out; rw [body119, show s.rs.pos = s.pos from rfl, hn] at hx; exact hx)
    rw [HAT.out] at hn
    have H2 := Lib.hid (callsBad (dtext_any B rb bv sv bs _ 119 at' (by omega) hlen hpos w1 HW1.out.rp HST.out.why) (by rw [HAT.out]; exact hn))
    clear hn hs1
    go_wp2_with fail
    refine (H2.out).mono ?_
    rintro r w2 ⟨⟨str, rfl⟩, hE⟩
    have hE2 := DEr.behind HW1.out hE
    have HE := Lib.hid hE2
    obtain ⟨c4, q1, q2⟩ := hE2.why0
    clear hE hE2
    go_wp2_with fail
    go_end0
    exact ⟨rfl, ResP.badI HF.out HE.out⟩
  | ok x =>
    have HX2 : Hid (OneX bs (madeD s.rs x.2 s.pos ⟨2, 0, x.1⟩) X) := Lib.hid (by have hx := HX.out; rw [body119, show s.rs.pos = s.pos from rfl, hn] at hx; exact hx)
    rw [HAT.out] at hn
    have H2 := Lib.hid (callsOk (dtext_any B rb bv sv bs _ 119 at' (by omega) hlen hpos w1 HW1.out.rp HST.out.why) (by rw [HAT.out]; exact hn))
    clear hn hs1
    go_wp2_with fail
    refine (H2.out).mono ?_
    rintro r w2 ⟨rfl, h2⟩
    have H3 := Lib.hid (dleaf_made B rb bv sv bs _ 2 0 x.1 at' w2 h2.rp HST.out.why HST.out.cells (by simp only; omega))
    have c4 := (Ds.cell h2.rp.blk).2.2.2.2.1
    simp only at c4
    rw [HST.out.why] at c4
    have HW2 := Lib.hid (HW1.out.trans h2)
    clear h2
    go_wp2_with fail
    refine (H3.out).mono ?_
    rintro r w3 h3
    obtain rfl := h3.1
    have HP := Lib.hid h3
    clear h3
    go_wp2_with fail
    go_end0
    rw [← HAT.out] at HP
    exact DPx.behind HW2.out (DPost.fin HX2.out (fun _ h => made_two h) ⟨rfl, HP.out.2⟩)

include hlen hpos h hst htk in
set_option maxHeartbeats 1600000 in
set_option maxRecDepth 100000 in
theorem dterm_other (y : Nat) (hc : c.toNat = y) (hX : OneX bs (bodyD bs s.rs y (s.pos + 1)) X) (hy : y ≠ 97 ∧ y ≠ 98 ∧ y ≠ 110 ∧ y ≠ 118 ∧ y ≠ 119 ∧ y ≠ 104 ∧ y ≠ 105 ∧ y ≠ 106 ∧ y ≠ 107 ∧ y ≠ 108 ∧ y ≠ 109 ∧ y ≠ 88 ∧ y ≠ 90) : Calls Tryd.prog 32 #[.pointer (some ⟨rb, 0, none⟩)] w (DPx B w rb bv sv bs X) := by
  have HST := Lib.hid hst
  have HH1 := Lib.hid (callsOk (dtake_any B rb bv sv bs s 1 hlen hpos (by omega) w h hst.why) htk)
  obtain ⟨n1, n2, n3, n4, n5, n6, n7, n8, n9, n10, n11, n12, n13⟩ := hy
  have HX : Hid (X = .bad 61 s.pos) := Lib.hid (by
    have hb : bodyD bs s.rs y (s.pos + 1) = .bad 61 s.pos := by
      unfold bodyD
      rw [if_neg n1, if_neg n2, if_neg n3, if_neg (by omega), if_neg n6, if_neg n7, if_neg n8, if_neg n9, if_neg n10, if_neg n11, if_neg n12, if_neg n13]
      rfl
    rw [hb] at hX
    exact hX)
  have q1 : ((y : Int) == 97) = false := by simp; omega
  have q2 : ((y : Int) == 98) = false := by simp; omega
  have q3 : ((y : Int) == 110) = false := by simp; omega
  have q4 : ((y : Int) == 118) = false := by simp; omega
  have q5 : ((y : Int) == 119) = false := by simp; omega
  have q6 : ((y : Int) == 104) = false := by simp; omega
  have q7 : ((y : Int) == 105) = false := by simp; omega
  have q8 : ((y : Int) == 106) = false := by simp; omega
  have q9 : ((y : Int) == 107) = false := by simp; omega
  have q10 : ((y : Int) == 108) = false := by simp; omega
  have q11 : ((y : Int) == 109) = false := by simp; omega
  have q12 : ((y : Int) == 88) = false := by simp; omega
  have q13 : ((y : Int) == 90) = false := by simp; omega
  have hcc : (byteCells [c])[0]? = some (.int .u8 y) := by unfold byteCells; simp [hc]
  obtain ⟨c0, c1, c2, c3, c4, c5⟩ := Ds.cell h.blk
  obtain ⟨at', hat⟩ : ∃ at', s.pos = at' := ⟨_, rfl⟩
  rw [hat] at c1
  have HAT := Lib.hid hat
  have hso := hst.out
  have hcl := hst.cells
  have hple := (takeD_ok htk).1
  clear n1 n2 n3 n4 n5 n6 n7 n8 n9 n10 n11 n12 n13 hX hc htk h hst hat c0 c2 c3 c4 c5
  go_enter Tryd.func32, Tryd.ntmps32
  go_wp2_with fail
  refine (HH1.out).mono ?_
  rintro r w1 ⟨_, ⟨g, off, cap, rfl, hrd⟩, h1⟩
  obtain ⟨g', off', cap', hv, hr1, hr2, hr3⟩ := hrd.now.at (by omega)
  simp at hv
  obtain ⟨⟨rfl, rfl⟩, rfl⟩ := hv
  have d0 := hr3 0 (by omega)
  rw [hcc, Nat.add_zero] at d0
  have HRD := Lib.hid hrd
  have HW1 := Lib.hid h1
  have hs1 : DSt bs { s with pos := s.pos + 1 } := ⟨HST.out.why, HST.out.cells, by show s.out.length ≤ s.cells + (s.pos + 1) + 1; omega⟩
  clear hr1 hr2 hr3 h1 hrd hcc HH1 c1
  have H2 := Lib.hid (dfail_any B rb bv sv bs _ 61 at' w1 HW1.out.rp)
  clear hs1
  go_wp2_with fail
  refine (H2.out).mono ?_
  rintro r w2 ⟨rfl, h2⟩
  have HW2 := Lib.hid h2
  clear h2
  go_wp2_with fail
  go_end0
  rw [← HAT.out] at HW2
  exact ⟨rfl, ResP.badI HX.out (DEr.behind HW1.out (.fail HW2.out HST.out.why (by omega)))⟩
end

set_option maxRecDepth 100000 in
theorem dterm_short (bs : List UInt8) (hlen : bs.length ≤ 1048576) (hpos : 1 ≤ bs.length) (B rb : Nat) (bv sv : Value) (s : Ds) (w : World) (X : Res Rs) (h : Dp B w rb bv sv bs s) (hst : DSt bs s) (htk : takeD bs s.pos 1 = .bad 62 bs.length) (hX : X = .bad 62 bs.length) :
    Calls Tryd.prog 32 #[.pointer (some ⟨rb, 0, none⟩)] w (DPx B w rb bv sv bs X) := by
  have HH1 := Lib.hid (callsBad (dtake_any B rb bv sv bs s 1 hlen hpos (by omega) w h hst.why) htk)
  have HX := Lib.hid hX
  obtain ⟨c0, c1, c2, c3, c4, c5⟩ := Ds.cell h.blk
  obtain ⟨at', hat⟩ : ∃ at', s.pos = at' := ⟨_, rfl⟩
  rw [hat] at c1
  clear hX htk h hst hat c0 c2 c3 c4 c5
  go_enter Tryd.func32, Tryd.ntmps32
  go_wp2_with fail
  refine (HH1.out).mono ?_
  rintro r w1 ⟨rfl, hE⟩
  have HE := Lib.hid hE
  clear hE
  go_wp2_with fail
  refine bodyPost_ret (results_none rfl _ _ _) rfl ⟨rfl, ResP.badI HX.out HE.out⟩

theorem dterm_all (bs : List UInt8) (hlen : bs.length ≤ 1048576) (hpos : 1 ≤ bs.length) : ∀ M, DT bs M
  | 0 => fun B rb bv sv s w X h _ hM _ => by have := h.le; omega
  | M + 1 => fun B rb bv sv s w X h hst hM hX => by
    have ih := dterm_all bs hlen hpos M
    have h1 := one_split hX
    by_cases hn : s.pos + 1 ≤ bs.length
    · have htk : takeD bs s.pos 1 = .ok (rest bs s.pos 1) := by unfold takeD; rw [if_neg (by omega)]
      obtain ⟨c, hc⟩ : ∃ c, rest bs s.pos 1 = [c] := by
        have := rest_len hn
        match rest bs s.pos 1, this with
        | [c], _ => exact ⟨c, rfl⟩
      rw [hc] at htk
      have hnum : numD bs s.pos 1 = .ok c.toNat := by unfold numD; rw [if_neg (by omega), hc]; simp [beN]
      have h2 : oneD bs s.rs = bodyD bs s.rs c.toNat (s.pos + 1) := by
        unfold oneD tagD
        rw [show s.rs.pos = s.pos from rfl, hnum]
        rfl
      rw [h2] at h1
      obtain ⟨y, hy⟩ : ∃ y, c.toNat = y := ⟨_, rfl⟩
      rw [hy] at h1
      by_cases t97 : y = 97
      · subst t97
        exact dterm_97 bs hlen hpos B rb bv sv s c w X h hst htk hy h1
      by_cases t98 : y = 98
      · subst t98
        exact dterm_98 bs hlen hpos B rb bv sv s c w X h hst htk hy h1
      by_cases t110 : y = 110
      · subst t110
        exact dterm_110 bs hlen hpos B rb bv sv s c w X h hst htk hy h1
      by_cases t118 : y = 118
      · subst t118
        exact dterm_118 bs hlen hpos B rb bv sv s c w X h hst htk hy h1
      by_cases t119 : y = 119
      · subst t119
        exact dterm_119 bs hlen hpos B rb bv sv s c w X h hst htk hy h1
      by_cases t104 : y = 104
      · subst t104
        exact dterm_104 M bs ih hlen hpos B rb bv sv s c w X h hst hM htk hy h1
      by_cases t105 : y = 105
      · subst t105
        exact dterm_105 M bs ih hlen hpos B rb bv sv s c w X h hst hM htk hy h1
      by_cases t106 : y = 106
      · subst t106
        exact dterm_106 bs hlen hpos B rb bv sv s c w X h hst htk hy h1
      by_cases t107 : y = 107
      · subst t107
        exact dterm_107 bs hlen hpos B rb bv sv s c w X h hst htk hy h1
      by_cases t108 : y = 108
      · subst t108
        exact dterm_108 M bs ih hlen hpos B rb bv sv s c w X h hst hM htk hy h1
      by_cases t109 : y = 109
      · subst t109
        exact dterm_109 bs hlen hpos B rb bv sv s c w X h hst htk hy h1
      by_cases t88 : y = 88
      · subst t88
        exact dterm_88 bs hlen hpos B rb bv sv s c w X h hst htk hy h1
      by_cases t90 : y = 90
      · subst t90
        exact dterm_90 bs hlen hpos B rb bv sv s c w X h hst htk hy h1
      exact dterm_other bs hlen hpos B rb bv sv s c w X h hst htk y hy h1 ⟨t97, t98, t110, t118, t119, t104, t105, t106, t107, t108, t109, t88, t90⟩
    · have htk : takeD bs s.pos 1 = .bad 62 bs.length := by unfold takeD; rw [if_pos (by omega)]
      have hnum : numD bs s.pos 1 = .bad 62 bs.length := by unfold numD; rw [if_pos (by omega)]
      have h2 : oneD bs s.rs = .bad 62 bs.length := by
        unfold oneD tagD
        rw [show s.rs.pos = s.pos from rfl, hnum]
        rfl
      rw [h2] at h1
      exact dterm_short bs hlen hpos B rb bv sv s w X h hst htk h1
end Go.Proofs.YtkhjdcnlpablkaaDoor

/-! The document's Decode. -/
namespace Go.Proofs.YtkhjdcnlpablkaaDoor
open Go.RowKit
open Go.Lib (byteCells)

set_option maxHeartbeats 3200000 in
set_option maxRecDepth 100000 in
theorem RDecode_any (bs : List UInt8) (v : Value) (w : World) (hrd : Rd w 1 v bs.length (byteCells bs)) :
    Calls Tryd.prog 11 #[v] w fun r w' => DecP w (decD bs) r w' ∧ Below w.heap.size w w' := by
  obtain ⟨ao, cap, rfl, hcap, hmax⟩ := hrd.shape
  unfold maxLen at hmax
  obtain ⟨X, hX⟩ : ∃ X, decD bs = X := ⟨_, rfl⟩
  rw [hX]
  have HX := Lib.hid (show X = decD bs from hX.symm)
  have HRD := Lib.hid hrd
  clear hX
  obtain ⟨n, hn⟩ : ∃ n, bs.length = n := ⟨_, rfl⟩
  rw [hn] at hrd hcap ⊢
  have HN := Lib.hid hn
  clear hn
  by_cases hbig : 1048576 < n
  · have HF : Hid (X = .bad 4 0) := Lib.hid (by rw [HX.out]; exact if_pos (by rw [HN.out]; exact hbig))
    have t1 : decide (1048576 < (n : Int)) = true := by simp; omega
    have t2 : decide (1048576 < n) = true := by simp; omega
    clear hrd hbig
    go_enter Tryd.func11, Tryd.ntmps11
    go_wp2_with fail
    go_ret3
    exact ⟨ResP.badI HF.out rfl, Below.refl _ _⟩
  · have t1 : decide (1048576 < (n : Int)) = false := by simp; omega
    have t2 : decide (1048576 < n) = false := by simp; omega
    by_cases hz : n = 0
    · subst hz
      have HF : Hid (X = .bad 60 0) := Lib.hid (by rw [HX.out]; unfold decD; rw [if_neg (by rw [HN.out]; omega), if_pos (.inl HN.out)])
      clear hrd hbig
      go_enter Tryd.func11, Tryd.ntmps11
      go_wp2_with fail
      go_ret3
      exact ⟨ResP.badI HF.out rfl, Below.refl _ _⟩
    · obtain ⟨b, bt, rfl⟩ : ∃ b bt, bs = b :: bt := by
        cases bs with
        | nil => exact absurd HN.out.symm hz
        | cons b bt => exact ⟨b, bt, rfl⟩
      obtain ⟨g, off, cap', hv, _, _, hjunk⟩ := hrd.at (by omega)
      clear hjunk
      simp at hv
      obtain ⟨rfl, rfl⟩ := hv
      have hb0 := cells_byte hrd (k := 0) (c := b) rfl HN.out
      rw [Nat.add_zero] at hb0
      obtain ⟨y, hy⟩ : ∃ y, b.toNat = y := ⟨_, rfl⟩
      rw [hy] at hb0
      have q1 : ((n : Int) == 0) = false := by simp; omega
      have q2 : (n == 0) = false := by simp; omega
      have hn0 : 0 < n := by omega
      clear hrd
      by_cases hb : y = 131
      · subst hb
        obtain ⟨rd, hrd⟩ := Runs.total (b :: bt) 1 false ⟨1, 0, []⟩ (by show 1 ≤ _; rw [HN.out]; omega)
        have HF : Hid (X = finD n rd) := Lib.hid (by
          obtain ⟨r2, h2, _⟩ := kids_total (b :: bt) ((b :: bt).length + 1) 1 false ⟨1, 0, []⟩ (by omega) (by show 1 ≤ _; rw [HN.out]; omega)
          have := Runs.unique hrd ⟨_, h2⟩
          subst this
          rw [HX.out]; unfold decD
          rw [if_neg (by rw [HN.out]; omega), if_neg, h2]
          · rw [HN.out]
            cases rd <;> rfl
          · rw [HN.out]
            rintro (e | e)
            · omega
            · exact e (by simp; exact UInt8.toNat_inj.1 hy))
        have hin : RdU w.heap.size w 1 (.slice (some ⟨g, off, none⟩) n cap) n (byteCells (b :: bt)) := RdU.of (by have := HRD.out; rw [HN.out] at this; exact this) (Nat.le_refl _)
        have hbel : Below w.heap.size w (w.alloc (.cells #[.slice (some ⟨g, off, none⟩) n cap, .int .i64 1, .slice none 0 0, .int .i64 0, .int .i64 0, .int .i64 0] 64)) := (Below.refl _ _).alloc (Nat.le_refl _) _
        have hd : Dp w.heap.size (w.alloc (.cells #[.slice (some ⟨g, off, none⟩) n cap, .int .i64 1, .slice none 0 0, .int .i64 0, .int .i64 0, .int .i64 0] 64)) w.heap.size (.slice (some ⟨g, off, none⟩) n cap) (.slice none 0 0) (b :: bt) ⟨1, 0, [], 0, 0⟩ :=
          ⟨heap_alloc_new w _, Sl.nil _ _ _, by rw [HN.out]; exact hin.step hbel, Nat.le_refl _, (fun k hk => by cases hk), by show 1 ≤ _; rw [HN.out]; omega⟩
        have H32 := Lib.hid (dterm_all (b :: bt) (by rw [HN.out]; omega) (by rw [HN.out]; omega) ((b :: bt).length + 1) w.heap.size w.heap.size _ _ _ _ rd hd ⟨rfl, by show 0 ≤ 1024; omega, by show 0 ≤ _; omega⟩ (by show _ < 1 + _; omega) hrd)
        have HD := Lib.hid hd
        have HBEL := Lib.hid hbel
        clear hrd hbig hz hin hbel hd
        go_enter Tryd.func11, Tryd.ntmps11
        go_wp2_with fail
        refine (H32.out).mono ?_
        rintro r w2 ⟨rfl, h2⟩
        cases rd with
        | bad e p =>
          have HFB : Hid (X = .bad e p) := Lib.hid HF.out
          have hE : DEr _ _ _ _ _ _ e p w2 := h2
          obtain ⟨c4, z1, z2⟩ := hE.why0
          have hbe2 : Below w.heap.size w w2 := by
            obtain ⟨sv2, s2, k1, _⟩ := hE
            exact HBEL.out.trans (k1.bel HD.out)
          obtain ⟨sv2, s2, k1, k2, k3, _⟩ := hE
          have c5 := (Ds.cell k1.rp.blk).2.2.2.2.2
          rw [k3] at c5
          have HBE := Lib.hid hbe2
          clear h2 k1 k2 k3 hbe2
          go_wp2_with fail
          go_quiet (fail)
          go_wp2_with fail
          go_ret3
          exact ⟨ResP.badI HFB.out rfl, bel_drewN HBE.out _⟩
        | ok x =>
          obtain ⟨sv2, s2, k1, k2, k3⟩ := h2
          have hbe2 : Below w.heap.size w w2 := HBEL.out.trans (k1.bel HD.out)
          obtain ⟨c0, c1, c2, c3, c4, c5⟩ := Ds.cell k1.rp.blk
          rw [k2] at c4
          obtain ⟨P, hP⟩ : ∃ P, s2.pos = P := ⟨_, rfl⟩
          rw [hP] at c1
          have HBE := Lib.hid hbe2
          have HF2 : Hid (X = if P < n then .bad 63 P else .ok s2.out) := Lib.hid (by
            have e1 : x.pos = P := by rw [← hP]; exact (congrArg Rs.pos k3).symm
            have e2 : x.out = s2.out := (congrArg Rs.out k3).symm
            rw [HF.out]
            unfold finD
            simp only [e1, e2])
          by_cases hmore : P < n
          · have HFB : Hid (X = .bad 63 P) := Lib.hid (by rw [HF2.out, if_pos hmore])
            have z1 : decide ((P : Int) < (n : Int)) = true := decide_eq_true (by omega)
            have H33 := Lib.hid (dfail_any w.heap.size w.heap.size _ sv2 (b :: bt) s2 63 P w2 k1.rp)
            have HK2 := Lib.hid k2
            have HRP := Lib.hid k1.rp
            clear k1 k2 k3 hbe2 c0 c2 c3 c5 hP
            go_wp2_with fail
            refine (H33.out).mono ?_
            rintro r w3 ⟨rfl, h3⟩
            have hbe3 := HBE.out.trans (h3.bel HRP.out)
            obtain ⟨_, _, _, _, f4, f5⟩ := Ds.cell h3.rp.blk
            rw [Ds.fail_zero HK2.out] at f4 f5
            simp only at f4 f5
            have HBE3 := Lib.hid hbe3
            clear h3 hbe3 c4 c1
            go_wp2_with fail
            go_quiet (fail)
            go_wp2_with fail
            go_ret3
            exact ⟨ResP.badI HFB.out rfl, bel_drewN HBE3.out _⟩
          · have HFB : Hid (X = .ok s2.out) := Lib.hid (by rw [HF2.out, if_neg hmore])
            have z1 : decide ((P : Int) < (n : Int)) = false := decide_eq_false (by omega)
            have HSL := Lib.hid k1.rp.sl
            have HOW := Lib.hid k1.rp.own
            obtain ⟨ao2, cap2, rfl, _, _⟩ := k1.rp.sl.shape
            clear k1 k2 k3 hbe2 c0 c3 c5 hP
            go_wp2_with fail
            go_ret3
            exact ⟨ResP.okI HFB.out ⟨_, rfl, HSL.out, HOW.out⟩, HBE.out⟩
      · have HF : Hid (X = .bad 60 0) := Lib.hid (by
          rw [HX.out]; unfold decD
          rw [if_neg (by rw [HN.out]; omega), if_pos (.inr (fun e => hb (by simp at e; rw [← hy, e]; rfl)))])
        have q3 : ((y : Int) != 131) = true := by simp; omega
        have q4 : (y != 131) = true := by simp; omega
        clear hbig hz hb
        go_enter Tryd.func11, Tryd.ntmps11
        go_wp2_with fail
        go_ret3
        exact ⟨ResP.badI HF.out rfl, Below.refl _ _⟩
end Go.Proofs.YtkhjdcnlpablkaaDoor

/-! Spoil: cells are written over, and behind them. -/
namespace Go.Proofs.YtkhjdcnlpablkaaDoor
open Go.RowKit
open Go.Lib (byteCells)

set_option maxHeartbeats 1600000 in
set_option maxRecDepth 100000 in
theorem spoil_any (n : Nat) (zs : List Value) (v : Value) (w : World) (hs : Sl w 60 3 v n zs) (hn : n ≤ 1000000) :
    Calls Tryd.prog 14 #[v] w fun e w' => e = .returned (.tuple #[]) ∧ Fr (fun k => v.ownBlock = some k) w w' := by
  obtain ⟨i0, hinf, hz0, hz1, hz2⟩ := info_parts Tryd.info60
  obtain ⟨ao, cap, rfl, hc, hm⟩ := hs.shape
  unfold maxLen at hm
  have HS := Lib.hid hs
  clear hs
  go_enter Tryd.func14, Tryd.ntmps14
  go_wp2_with fail
  go_loopg [2] n (fun g s2 wr => ∃ (k : Nat) (ys : List Value), s2 = .int .i64 k ∧ k + g = n ∧ Fr (fun q => Value.ownBlock (.slice ao n cap) = some q) w wr ∧ Sl wr 60 3 (.slice ao n cap) n ys)
  case atStart => exact ⟨0, zs, rfl, by omega, Fr.refl _ _, HS.out⟩
  case round =>
    obtain ⟨k, ys, rfl, hkg, hfr, hsl⟩ := hrel
    cases gk with
    | zero =>
      obtain rfl : k = n := by omega
      have HFR := Lib.hid hfr
      have HSL := Lib.hid hsl
      clear hfr hsl
      go_wp2_with (at_builtin; refine wpList_append_sl rfl (.tmp 13) (.tmp 15) 24 rfl 60 i0 (.agg #[.int .i64 0, .int .i64 0, .string ByteArray.empty]) 3 32 Tryd.underlying24 hinf hz0 hz1 hz2 rfl (by decide) _ k ys rfl (HSL.out.alloc _) ⟨wr.heap.size, 0, none⟩ 1 1 (cvs [⟨0, 0, ⟨#[98, 101, 104, 105, 110, 100]⟩⟩]) rfl rfl (cells_new wr (cvs [⟨0, 0, ⟨#[98, 101, 104, 105, 110, 100]⟩⟩]) 60) (cvs_one' _) (by unfold maxLen; omega) (by omega) ?next)
      case next =>
        intro v2 w2 h2 hf2 hv2
        obtain ⟨g2, o2, cap2, cur, rfl, hc2, hm2, _⟩ := h2.blk (by omega)
        have hF : Fr (fun q => Value.ownBlock (.slice ao k cap) = some q) wr w2 := ((Fr.refl _ wr).alloc _).trans hf2
        have hF2 := HFR.out.trans hF
        have hown : Value.ownBlock (.slice ao k cap) = some g2 ∨ w.heap.size ≤ g2 := by
          rcases hv2 with e | e
          · exact .inl (e ▸ rfl)
          · have := HFR.out.size
            simp [Value.ownBlock] at e
            exact .inr (by omega)
        have c1 := h2.cell (k * 3 + 1) (by omega)
        have hl2 := h2.len
        rw [List.getElem?_eq_getElem (by omega)] at c1
        have f1 := h2.free (o2 + k * 3 + 1)
        rw [← Nat.add_assoc] at c1
        unfold maxLen at hm2
        have HF2 := Lib.hid hF2
        have HO := Lib.hid hown
        clear hF hF2 hown h2 hf2 hv2 HFR HSL
        go_wp2_with fail
        go_end0
        exact ⟨rfl, HF2.out.setCell (p := ⟨g2, o2 + k * 3 + 1, none⟩) HO.out _⟩
    | succ g =>
      have hkn : k < n := by omega
      have hkz : (k : Int) < (n : Int) := by omega
      obtain ⟨ga, oa, capa', cur, hva, _, _, _⟩ := hsl.blk (by omega)
      simp at hva
      obtain ⟨rfl, rfl⟩ := hva
      have c0 := hsl.cell (k * 3) (by omega)
      have c1 := hsl.cell (k * 3 + 1) (by omega)
      have c2 := hsl.cell (k * 3 + 2) (by omega)
      have hyl := hsl.len
      rw [List.getElem?_eq_getElem (by omega)] at c0 c1 c2
      have f0 := hsl.free (oa + k * 3)
      have f1 := hsl.free (oa + k * 3 + 1)
      have f2 := hsl.free (oa + k * 3 + 2)
      rw [← Nat.add_assoc] at c1 c2
      have HFR := Lib.hid hfr
      have HSL := Lib.hid hsl
      clear hfr hsl
      go_wp2_with fail
      go_roundg g
      case measure => omega
      case rel => exact ⟨k + 1, _, by go_num, by omega,
        (((HFR.out.setCell (p := ⟨ga, oa + k * 3, none⟩) (.inl rfl) _).setCell (p := ⟨ga, oa + k * 3 + 1, none⟩) (.inl rfl) _).setCell (p := ⟨ga, oa + k * 3 + 2, none⟩) (.inl rfl) _),
        ((HSL.out.store (k * 3) (by omega) (.int .i64 99)).store (k * 3 + 1) (by omega) (.int .i64 99)).store (k * 3 + 2) (by omega) (.string ⟨#[115, 112, 111, 105, 108, 116]⟩)⟩
end Go.Proofs.YtkhjdcnlpablkaaDoor

/-! lent: bytes with one behind them. -/
namespace Go.Proofs.YtkhjdcnlpablkaaDoor
open Go.RowKit
open Go.Lib (byteCells)

/-- Bytes l, of a block from B on, and a byte x behind them. -/
def LentB (B : Nat) (w : World) (v : Value) (l : List UInt8) (x : UInt8) : Prop := ∃ g off cap, v = .slice (some ⟨g, off, none⟩) l.length cap ∧ l.length + 1 ≤ cap ∧ cap ≤ maxLen ∧ B ≤ g ∧ Sl w 5 1 (.slice (some ⟨g, off, none⟩) (l.length + 1) cap) (l.length + 1) (byteCells (l ++ [x]))
theorem LentB.below {B : Nat} {w w' : World} {v : Value} {l : List UInt8} {x : UInt8} (h : LentB B w v l x) (hb : Below w.heap.size w w') : LentB B w' v l x := by
  obtain ⟨g, off, cap, h1, h2, h3, h4, h5⟩ := h
  exact ⟨g, off, cap, h1, h2, h3, h4, h5.keep fun k hk => hb.block k (h5.lt k hk)⟩
theorem LentB.bs {B : Nat} {w : World} {v : Value} {l : List UInt8} {x : UInt8} (h : LentB B w v l x) : Bs B w v l := by
  obtain ⟨g, off, cap, rfl, h2, h3, h4, h5⟩ := h
  have := h5.take (m := l.length) (by omega)
  rw [Lib.byteCells_append, List.take_left' (by rw [Lib.byteCells_length]; omega)] at this
  exact ⟨this, fun k hk => by simp [Value.ownBlock] at hk; omega⟩

set_option maxHeartbeats 1600000 in
set_option maxRecDepth 100000 in
theorem lent_any (l : List UInt8) (v : Value) (w : World) (hr : Rd w 1 v l.length (byteCells l)) (hl : l.length ≤ 140737488355328) :
    Calls Tryd.prog 9 #[v] w fun e w' => ∃ v', e = .returned v' ∧ LentB w.heap.size w' v' l 77 ∧ Below w.heap.size w w' := by
  obtain ⟨i0, hinf, hz0, hz1, hz2⟩ := info_parts Tryd.info5
  obtain ⟨ao, cap, rfl, _, _⟩ := hr.shape
  have HR := Lib.hid hr
  clear hr
  go_enter Tryd.func9, Tryd.ntmps9
  go_wp2_with (at_builtin; refine wpList_bytes_rd (.tmp 4) (.tmp 5) l rfl rfl rfl rfl (Bs.nil w.heap.size _) HR.out (Nat.le_refl _) (by simp; omega) ?next)
  case next =>
    intro v1 w1 h1
    obtain ⟨ao1, cap1, rfl, hc1, hm1⟩ := h1.bs.shape
    have H1 := Lib.hid h1
    have hz := h1.bel.size
    clear h1
    go_wp2_with (at_builtin; refine wpList_append_one rfl (.tmp 7) (.tmp 8) 22 rfl 5 i0 (.int .u8 0) 1 1 Tryd.underlying22 hinf hz0 hz1 hz2 rfl (by decide) _ l.length (byteCells l) rfl (H1.out.bs.sl.alloc _) ⟨w1.heap.size, 0, none⟩ 1 (byteCells [77]) rfl rfl (cells_new w1 (byteCells [77]) 5) (fun u hu => Lib.byteCells_one _ u hu) (by unfold maxLen; omega) (by omega) (by omega) ?next2)
    case next2 =>
      intro v2 w2 h2 hf2 hv2
      obtain ⟨g, off, cap2, cur, rfl, hc2, hm2, _⟩ := h2.blk (by omega)
      have hF : Fr (fun q => Value.ownBlock (.slice ao1 l.length cap1) = some q) w1 w2 := ((Fr.refl _ w1).alloc _).trans hf2
      have hn : w.heap.size ≤ g := by
        rcases hv2 with e | e
        · exact H1.out.bs.own g (e ▸ rfl)
        · simp [Value.ownBlock] at e; omega
      have HB := Lib.hid (H1.out.bel.trans (hF.below hz H1.out.bs.own))
      have H2 : Hid (Sl w2 5 1 (.slice (some ⟨g, off, none⟩) (l.length + 1) cap2) (l.length + 1) (byteCells (l ++ [77]))) := Lib.hid (by rw [Lib.byteCells_append]; exact h2)
      have hm3 := hm2
      unfold maxLen at hm3
      clear hF h2 hf2 hv2 H1
      go_wp2_with fail
      go_ret
      exact ⟨_, rfl, ⟨g, off, cap2, rfl, hc2, hm2, hn, H2.out⟩, HB.out⟩

set_option maxHeartbeats 1600000 in
set_option maxRecDepth 100000 in
theorem kept_any (B : Nat) (l : List UInt8) (v u : Value) (w : World) (hr : Rd w 1 u l.length (byteCells l)) (hl : LentB B w v l 77) (hle : l.length ≤ 140737488355328) :
    Calls Tryd.prog 13 #[v, u] w fun e w' => e = .returned (.bool true) ∧ Below w.heap.size w w' := by
  have HS := Lib.hid (bsame_any l l v u w hl.bs.sl.rd hr)
  obtain ⟨ao, capu, rfl, _, _⟩ := hr.shape
  obtain ⟨g, off, cap, rfl, h2, h3, h4, h5⟩ := hl
  have hm3 := h3
  unfold maxLen at hm3
  have H5 := Lib.hid h5
  clear hr h5
  go_enter Tryd.func13, Tryd.ntmps13
  go_wp2_with fail
  refine (HS.out).mono ?_
  rintro e w1 ⟨b, rfl, hb, hbe⟩
  obtain rfl : b = true := hb.2 (by trivial)
  have h6 : Sl w1 5 1 (.slice (some ⟨g, off, none⟩) (l.length + 1) cap) (l.length + 1) (byteCells (l ++ [77])) := H5.out.keep fun k hk => hbe.block k (H5.out.lt k hk)
  have c3 := h6.cell l.length (by omega)
  rw [show (byteCells (l ++ [77]))[l.length]? = some (.int .u8 77) by rw [Lib.byteCells_append, List.getElem?_append_right (by rw [Lib.byteCells_length]; omega), Lib.byteCells_length, Nat.sub_self]; rfl] at c3
  have HB := Lib.hid hbe
  clear h6 hb hbe HS H5
  go_wp2_with fail
  go_ret
  exact ⟨rfl, HB.out⟩
end Go.Proofs.YtkhjdcnlpablkaaDoor

/-! EtfReads: any bytes, which stay; answers are new memory. -/
namespace Go.Proofs.YtkhjdcnlpablkaaDoor
open Go.RowKit
open Go.Lib (byteCells)

/-- What Decode answers: cells, a fault's number, a place. -/
def decT (X : Res (List Ce)) : List Ce × Nat × Nat := match X with
  | .ok cs => (cs, 0, 0)
  | .bad e p => ([], e, p)
/-- The answer: cells of new memory. -/
theorem DecP.all {w w' : World} {X : Res (List Ce)} {r : Ending} (h : DecP w X r w') : ∃ v, r = .returned (.tuple #[v, .int .i64 (decT X).2.1, .int .i64 (decT X).2.2]) ∧ Sl w' 60 3 v (decT X).1.length (cvs (decT X).1) ∧ ∀ k, v.ownBlock = some k → w.heap.size ≤ k := by
  cases X with
  | ok cs =>
    obtain ⟨v, h1, h2, h3⟩ := h
    exact ⟨v, h1, h2, h3⟩
  | bad e p => exact ⟨.slice none 0 0, h, Sl.nil _ _ _, fun k hk => by simp [Value.ownBlock] at hk⟩
theorem decT_len (bs : List UInt8) : (decT (decD bs)).1.length ≤ 1024 := by
  cases h : decD bs with
  | bad e p => simp [decT]
  | ok cs =>
    obtain ⟨a, rfl, _, _, h4⟩ := dec_good h
    exact h4

set_option maxHeartbeats 3200000 in
set_option maxRecDepth 100000 in
theorem etfReads_walk (l : List UInt8) (v : Value) (w : World) (hr : Rd w 1 v l.length (byteCells l)) (hle : l.length ≤ 140737488355328) (hT : Lib.Utf8Tabs 0 1 w) :
    Calls Tryd.prog 3 #[v] w fun e w' => e = .returned (.bool true) ∧ Below w.heap.size w w' := by
  have HT : Hid (∀ W, Below w.heap.size w W → Lib.Utf8Tabs 0 1 W) := Lib.hid (fun W h => tabs_below hT (Nat.le_refl _) h)
  have HR := Lib.hid hr
  have HLE := Lib.hid hle
  have H9 := Lib.hid (lent_any l v w hr hle)
  have htl := decT_len l
  obtain ⟨ao, cap, rfl, _, _⟩ := hr.shape
  obtain ⟨D, hD⟩ : ∃ D, decD l = D := ⟨_, rfl⟩
  rw [hD] at htl
  have HD := Lib.hid hD
  obtain ⟨T, hTT⟩ : ∃ T, decT D = T := ⟨_, rfl⟩
  rw [hTT] at htl
  have HTT := Lib.hid hTT
  obtain ⟨t, e1, p1⟩ := T
  simp only at htl
  have q1 : ((e1 : Int) != (e1 : Int)) = false := by simp
  have q2 : ((p1 : Int) != (p1 : Int)) = false := by simp
  clear hr hT hle hD hTT
  go_enter Tryd.func3, Tryd.ntmps3
  go_wp2_with fail
  refine (H9.out).mono ?_
  rintro e w1 ⟨v1, rfl, hl1, hbe1⟩
  have HL1 := Lib.hid hl1
  have HBE1 := Lib.hid hbe1
  have h10 := Decode_any l v1 w1 hl1.bs.sl.rd (fun W hW => HT.out W (hbe1.trans (hW.mono hbe1.size)))
  rw [HD.out] at h10
  have H10 := Lib.hid h10
  obtain ⟨aol, capl, rfl, _, _⟩ := hl1.bs.shape
  clear hl1 hbe1 H9 h10
  go_wp2_with fail
  refine (H10.out).mono ?_
  rintro e w2 ⟨hd, hbe2⟩
  obtain ⟨va, hra, hsa, hoa⟩ := hd.all
  rw [HTT.out] at hra hsa
  simp only at hra hsa
  subst hra
  have HSA := Lib.hid hsa
  have HL2 := Lib.hid (HL1.out.below hbe2)
  have HBE2 := Lib.hid (HBE1.out.trans (hbe2.mono HBE1.out.size))
  have h10 := Decode_any l _ w2 HL2.out.bs.sl.rd (fun W hW => HT.out W (HBE2.out.trans (hW.mono HBE2.out.size)))
  rw [HD.out] at h10
  have H10b := Lib.hid h10
  have hz1 := HBE1.out.size
  obtain ⟨aoa, capa, rfl, _, hma⟩ := hsa.shape
  have HALT : Hid (∀ k, Value.ownBlock (.slice aoa t.length capa) = some k → w.heap.size ≤ k ∧ k < w2.heap.size) := Lib.hid (fun k hk => ⟨Nat.le_trans hz1 (hoa k hk), hsa.lt k hk⟩)
  clear hd hsa hoa hbe2 HL1 HBE1 H10 h10 hz1
  go_wp2_with fail
  refine (H10b.out).mono ?_
  rintro e w3 ⟨hd, hbe3⟩
  obtain ⟨vb, hrb, hsb, hob⟩ := hd.all
  rw [HTT.out] at hrb hsb
  simp only at hrb hsb
  subst hrb
  have HSB := Lib.hid hsb
  have HOB := Lib.hid hob
  have HSA3 := Lib.hid (HSA.out.keep fun q hq => hbe3.block q (HSA.out.lt q hq))
  have HL3 := Lib.hid (HL2.out.below hbe3)
  have HBE3 := Lib.hid (HBE2.out.trans (hbe3.mono HBE2.out.size))
  have h11 := RDecode_any l _ w3 (HR.out.below (Nat.le_refl _) HBE3.out)
  rw [HD.out] at h11
  have H11 := Lib.hid h11
  have HZ2 := Lib.hid hbe3.size
  obtain ⟨aob, capb, rfl, _, _⟩ := hsb.shape
  clear hd hsb hob hbe3 HL2 HBE2 H10b h11 HSA
  go_wp2_with fail
  refine (H11.out).mono ?_
  rintro e w4 ⟨hd, hbe4⟩
  obtain ⟨vc, hrc, hsc, hoc⟩ := hd.all
  rw [HTT.out] at hrc hsc
  simp only at hrc hsc
  subst hrc
  have HSC := Lib.hid hsc
  have HOC := Lib.hid hoc
  have HSA4 := Lib.hid (HSA3.out.keep fun q hq => hbe4.block q (HSA3.out.lt q hq))
  have HSB4 := Lib.hid (HSB.out.keep fun q hq => hbe4.block q (HSB.out.lt q hq))
  have HL4 := Lib.hid (HL3.out.below hbe4)
  have HBE4 := Lib.hid (HBE3.out.trans (hbe4.mono HBE3.out.size))
  have H12 := Lib.hid (same_any t t _ _ w4 HSA4.out.rd HSC.out.rd)
  obtain ⟨aoc, capc, rfl, _, _⟩ := hsc.shape
  clear hd hsc hoc hbe4 HL3 HBE3 H11 HSA3 HSB
  go_wp2_with fail
  refine (H12.out).mono ?_
  rintro e w5 ⟨b, rfl, hb, hbe5⟩
  obtain rfl : b = true := hb.2 (by trivial)
  have HSA5 := Lib.hid (HSA4.out.keep fun q hq => hbe5.block q (HSA4.out.lt q hq))
  have HSB5 := Lib.hid (HSB4.out.keep fun q hq => hbe5.block q (HSB4.out.lt q hq))
  have HSC5 := Lib.hid (HSC.out.keep fun q hq => hbe5.block q (HSC.out.lt q hq))
  have HL5 := Lib.hid (HL4.out.below hbe5)
  have HBE5 := Lib.hid (HBE4.out.trans (hbe5.mono HBE4.out.size))
  have H13 := Lib.hid (kept_any _ l _ _ w5 (HR.out.below (Nat.le_refl _) HBE5.out) HL5.out HLE.out)
  clear hb hbe5 HL4 HBE4 H12 HSA4 HSB4 HSC
  go_wp2_with fail
  refine (H13.out).mono ?_
  rintro e w6 ⟨rfl, hbe6⟩
  have HSA6 := Lib.hid (HSA5.out.keep fun q hq => hbe6.block q (HSA5.out.lt q hq))
  have HSB6 := Lib.hid (HSB5.out.keep fun q hq => hbe6.block q (HSB5.out.lt q hq))
  have HSC6 := Lib.hid (HSC5.out.keep fun q hq => hbe6.block q (HSC5.out.lt q hq))
  have HBE6 := Lib.hid (HBE5.out.trans (hbe6.mono HBE5.out.size))
  have H14 := Lib.hid (spoil_any t.length _ _ w6 HSA6.out (by omega))
  clear hbe6 HL5 HBE5 H13 HSA5 HSB5 HSC5
  go_wp2_with fail
  refine (H14.out).mono ?_
  rintro e w7 ⟨rfl, hfr⟩
  have hbe7 : Below w.heap.size w w7 := HBE6.out.trans (hfr.below HBE6.out.size (fun q hq => (HALT.out q hq).1))
  have HBE7 := Lib.hid hbe7
  have HSB7 : Hid (Sl w7 60 3 (.slice aob t.length capb) t.length (cvs t)) := Lib.hid (hfr.sl HSB6.out (fun q hq hv => by have h1 := HOB.out q hq; have h2 := (HALT.out q hv).2; omega))
  have HSC7 : Hid (Sl w7 60 3 (.slice aoc t.length capc) t.length (cvs t)) := Lib.hid (hfr.sl HSC6.out (fun q hq hv => by have h1 := HOC.out q hq; have h2 := (HALT.out q hv).2; have h3 := HZ2.out; omega))
  have H12b := Lib.hid (same_any t t _ _ w7 HSB7.out.rd HSC7.out.rd)
  clear hfr hbe7 H14 HSA6 HSB6 HSC6 HBE6
  go_wp2_with fail
  refine (H12b.out).mono ?_
  rintro e w8 ⟨b, rfl, hb, hbe8⟩
  obtain rfl : b = true := hb.2 (by trivial)
  have HBE8 := Lib.hid (HBE7.out.trans (hbe8.mono HBE7.out.size))
  have HAW := Lib.hid (awake_any w8 (fun W hW => HT.out W (HBE8.out.trans (hW.mono HBE8.out.size))))
  clear hb hbe8 H12b HSB7 HSC7 HBE7
  go_wp2_with fail
  refine (HAW.out).mono ?_
  rintro e w9 ⟨rfl, hbe9⟩
  have HBE9 := Lib.hid (HBE8.out.trans (hbe9.mono HBE8.out.size))
  clear hbe9 HAW
  go_wp2_with fail
  go_ret
  exact ⟨rfl, HBE9.out⟩
end Go.Proofs.YtkhjdcnlpablkaaDoor
