/- Several texts in one: Room, Renc, Rrun, Rsho, Rterm, Rlist, Rcod, Wlaw. -/
import Derived.Test.YtkhjdcnlpablkaaDoorBase
import Derived.Test.YtkhjdcnlpablkaaDoorEncode
import Derived.Laws.IdiomStrings
import Derived.Test.YtkhjdcnlpablkaaDoorInv2
import Derived.Test.YtkhjdcnlpablkaaDoorIter
import Derived.Test.YtkhjdcnlpablkaaDoorSam2
import Derived.Test.YtkhjdcnlpablkaaDoorStk
import Derived.Test.YtkhjdcnlpablkaaDoorAw
/-! APPEND where what was there fills the reach. -/
namespace Go.Proofs.YtkhjdcnlpablkaaDoor
open Go.RowKit

/-- APPEND, whatever the slice; what growing asks for is a premise. -/
theorem run_append_room {P : Program} (w : World) (t ty e : TypeId) (i : TypeInfo) (z : Value) (size bytes : Nat) (ht : P.underlying t = some (.slice e)) (hi : P.info? e = some i) (hz : i.zero = some z)
    (hsize : i.size = size) (hby : i.bytes = bytes) (hzs : z.cells.size = size) (hsz : 0 < size)
    (v : Value) (n : Nat) (xs : List Value) (hs : Sl w e size v n xs)
    (a : Addr) (m c : Nat) (news : List Value) (hl : news.length = m * size) (hnews : ∀ j u, news[j]? = some u → w.cell? (a.add j) = some u) (h1 : ∀ u ∈ news, u.oneCell' = true)
    (h63 : n + m ≤ maxLen) (hnil : n = 0 → m * bytes ≤ 281474976710656) (hfit : ∀ old, n ≤ old → old < n + m → Builtin.nextslicecap (n + m) old * bytes ≤ 281474976710656) :
    ∃ v' w', (Builtin.append_ #[t, t] ty #[v, .slice (some a) m c]).run P w = .ok v' w' ∧ Sl w' e size v' (n + m) (xs ++ news) ∧ Fr (fun k => v.ownBlock = some k) w w' ∧
      (v'.ownBlock = v.ownBlock ∨ v'.ownBlock = some w.heap.size) := by
  subst hsize
  subst hby
  have hlen : (xs ++ news).length = (n + m) * i.size := by rw [List.length_append, hs.len, hl, Nat.add_mul]
  obtain ⟨ao, cap, rfl, h0, hnc, hcm, h3⟩ := hs
  have grown : ∀ (old : Nat), old < n + m →
      Sl (w.drew.alloc (.cells (xs.toArray ++ news.toArray ++ Builtin.zeroCells z.cells (grownCap w (n + m) old e - (n + m))) e)) e i.size (.slice (some ⟨w.heap.size, 0, none⟩) (n + m) (grownCap w (n + m) old e)) (n + m) (xs ++ news) := by
    intro old ho
    have hge := grownCap_ge w (n + m) old e
    have hcm : grownCap w (n + m) old e ≤ maxLen := grownCap_le_maxLen w (n + m) old e h63
    refine ⟨_, _, rfl, hlen, hge, hcm, .inr ⟨w.heap.size, 0, _, rfl, heap_alloc_new w.drew _, ?_, ?_⟩⟩
    · simp only [Array.size_append, List.size_toArray, size_zeroCells, hzs, h0, hl, ← Nat.add_mul, Nat.zero_add]
      apply Nat.mul_le_mul_right
      omega
    · simp only [Array.toList_append, List.append_assoc, List.drop_zero]
      rw [← List.append_assoc, ← hlen]
      exact List.take_left
  have frg : ∀ (o : Obj) (F : Nat → Prop), Fr F w (w.drew.alloc o) := fun o F => ((Fr.refl F w).drew).alloc o
  rcases h3 with ⟨rfl, rfl⟩ | ⟨g, off, cur, rfl, hg, hfit0, htake⟩
  · obtain rfl : n = 0 := by omega
    have hx : xs = [] := List.eq_nil_of_length_eq_zero (by simpa using h0)
    subst hx
    by_cases hm : m = 0
    · subst hm
      have hn : news = [] := List.eq_nil_of_length_eq_zero (by simpa using hl)
      subst hn
      refine ⟨.slice none 0 0, w, ?_, Sl.nil w e i.size, Fr.refl _ _, .inl rfl⟩
      simp [Builtin.append_, run_underlying ht, sizeOf, typeInfo, hi, Builtin.lenOf, Builtin.firstCells, loadCells, loadCellsFrom]
    · have hr := run_append_nil (P := P) w t ty e i z ht hi hz a m c news hl hnews (by omega) (by simp only [maxLen] at h63; omega) (hnil rfl)
      have hgr := grown 0 (by omega)
      simp only [Nat.zero_add, List.nil_append, Array.empty_append] at hgr ⊢
      exact ⟨_, _, hr, hgr, frg _ _, .inr rfl⟩
  · by_cases hroom : n + m ≤ cap
    · have hsp : (n + m) * i.size ≤ cap * i.size := Nat.mul_le_mul_right _ hroom
      rw [Nat.add_mul] at hsp
      have hf := run_firstCells_some (P := P) w i.size m a m c news hl hnews
      have hst := run_storeCells_at P g (off + n * i.size) e news 0 cur w hg (by simp only [Nat.add_zero]; omega) h1
      simp only [Nat.add_zero] at hst
      refine ⟨.slice (some ⟨g, off, none⟩) (n + m) cap, w.setRow g (cur.toList.take (off + n * i.size) ++ news ++ cur.toList.drop (off + n * i.size + news.length)).toArray, ?_, ⟨_, _, rfl, hlen, hroom, hcm, .inr ⟨g, off, _, rfl, setRow_heap w g cur _ e _ hg, ?_, ?_⟩⟩, ⟨rfl, rfl, rfl, by simp, fun k _ hk => setRow_other w g k _ (fun e => hk (by simp [Value.ownBlock, e]))⟩, .inl rfl⟩
      · simp [Builtin.append_, run_underlying ht, sizeOf, typeInfo, hi, Builtin.lenOf, hroom, hf, Addr.add_lit, hst]
      · simp only [List.size_toArray, List.length_append, List.length_take, List.length_drop, Array.length_toList]
        omega
      · simp only [List.append_assoc]
        rw [List.drop_append_of_le_length (by simp; omega)]
        have e1 : List.drop off (List.take (off + n * i.size) cur.toList) = xs := by
          rw [List.drop_take, show off + n * i.size - off = n * i.size by omega]; exact htake
        rw [e1, ← List.append_assoc, ← hlen]
        exact List.take_left
    · have holds : ∀ j u, xs[j]? = some u → w.cell? ((⟨g, off, none⟩ : Addr).add j) = some u := by
        intro j u hu
        have hj : j < n * i.size := by
          have := (List.getElem?_eq_some_iff.1 hu).1
          omega
        rw [Addr.add_lit, blk_cell hg, ← hu, ← htake, List.getElem?_take, if_pos hj, List.getElem?_drop]
        simp
      have hr := run_append_grow (P := P) w t ty e i z ht hi hz ⟨g, off, none⟩ n cap xs h0 holds a m c news hl hnews (by omega) (by simp only [maxLen] at h63; omega) (hfit cap (by omega) (by omega))
      exact ⟨_, _, hr, grown cap (by omega), frg _ _, .inr rfl⟩

/-- APPEND of one element to a slice that fills the reach. -/
theorem wpList_append_one {P : Program} {w : World} {ops : Array Oper} {rest : List Oper} {o : Oper} {a : Act} {Q : Exit → Act → World → Prop} (hgd : o.guard = none) (s x : Operand) (t : TypeId)
    (ho : o.op = .call { callee := .builtin .append, args := #[s, x], argTypes := #[t, t] })
    (e : TypeId) (i : TypeInfo) (z : Value) (size bytes : Nat) (ht : P.underlying t = some (.slice e)) (hi : P.info? e = some i) (hz : i.zero = some z)
    (hsize : i.size = size) (hby : i.bytes = bytes) (hzs : z.cells.size = size) (hsz : 0 < size)
    (v : Value) (n : Nat) (xs : List Value) (hs : a.eval s = v) (hown : Sl w e size v n xs)
    (ad : Addr) (c : Nat) (news : List Value) (hx : a.eval x = .slice (some ad) 1 c) (hl : news.length = 1 * size) (hnews : ∀ j u, news[j]? = some u → w.cell? (ad.add j) = some u) (h1 : ∀ u ∈ news, u.oneCell' = true)
    (h63 : n + 1 ≤ maxLen) (hbytes : n * bytes ≤ 140737488355328) (hb1 : bytes ≤ 1000)
    (h : ∀ v' w', Sl w' e size v' (n + 1) (xs ++ news) → Fr (fun k => v.ownBlock = some k) w w' → (v'.ownBlock = v.ownBlock ∨ v'.ownBlock = some w.heap.size) → wpList P ops Q rest (a.put o.dst v') w') : wpList P ops Q (o :: rest) a w := by
  refine wpList_plain hgd fun K hK => ?_
  obtain ⟨v', w', hr, h2, h3, h4⟩ := run_append_room (P := P) w t o.type e i z size bytes ht hi hz hsize hby hzs hsz v n xs hown ad 1 c news hl hnews h1 h63 (fun h => by omega) (fun old h1 h2 => by
    obtain rfl : old = n := by omega
    exact growslice_fits_succ hbytes (by omega))
  unfold Oper.wp execOp
  simp only [ho, resolve, invoke, builtin, Sem.run_bind, Sem.run_pure, Result.andThen_ok, List.map_toArray, List.map_cons, List.map_nil, hs, hx, hr]
  exact hK _ _ (h v' w' h2 h3 h4)
end Go.Proofs.YtkhjdcnlpablkaaDoor

/-! The document's bytes: numbers, texts, whole numbers. -/
namespace Go.Proofs.YtkhjdcnlpablkaaDoor
open Go.RowKit
open Go.Lib (byteCells)

/-- New memory holds the bytes. -/
def NewB (w : World) (l : List UInt8) (e : Ending) (w' : World) : Prop := ∃ v', e = .returned v' ∧ Bs w.heap.size w' v' l ∧ Below w.heap.size w w'

theorem Bs.new (w : World) (cs : List Value) (l : List UInt8) (m : Nat) (h : cs = byteCells l) (hm : l.length = m) (hl : m ≤ 1000000000) : Bs w.heap.size (w.alloc (.cells cs.toArray 5)) (.slice (some ⟨w.heap.size, 0, none⟩) m m) l := by
  subst h hm
  exact ⟨Sl.new w 5 _ _ (Lib.byteCells_length l) (by unfold maxLen; omega), fun k hk => by simp [Value.ownBlock] at hk; omega⟩
theorem NewB.of {w : World} {cs : List Value} {l : List UInt8} {m : Nat} (h : cs = byteCells l) (hm : l.length = m) (hl : m ≤ 1000000000) : NewB w l (.returned (.slice (some ⟨w.heap.size, 0, none⟩) m m)) (w.alloc (.cells cs.toArray 5)) :=
  ⟨_, rfl, Bs.new w cs l m h hm hl, (Below.refl _ _).alloc (Nat.le_refl _) _⟩

set_option maxRecDepth 100000 in
theorem four_any (n : Int) (w : World) : Calls Tryd.prog 40 #[.int .i64 n] w (NewB w (be4 n)) := by
  go_enter Tryd.func40, Tryd.ntmps40
  go_wp2_with fail
  go_ret
  exact NewB.of (cs := [_, _, _, _]) (bytes4 (n / 16777216) (n / 65536) (n / 256) n) rfl (by omega)
set_option maxRecDepth 100000 in
theorem two_any (n : Int) (w : World) : Calls Tryd.prog 85 #[.int .i64 n] w (NewB w (be2 n)) := by
  go_enter Tryd.func85, Tryd.ntmps85
  go_wp2_with fail
  go_ret
  exact NewB.of (cs := [_, _]) (bytes2 (n / 256) n) rfl (by omega)

/-- The bytes of a text, new. -/
theorem conv_str (w : World) (s : ByteArray) (hs : s.size ≤ maxLen) : ∃ cap W, (convert 9 22 (.string s)).run Tryd.prog w = .ok (.slice (some ⟨w.heap.size, 0, none⟩) s.size cap) W ∧ Rd W 1 (.slice (some ⟨w.heap.size, 0, none⟩) s.size cap) s.data.toList.length (byteCells s.data.toList) ∧ Below w.heap.size w W := by
  refine ⟨_, _, run_bytes_of_string w 9 22 5 s Tryd.underlying9 Tryd.underlying22 Tryd.underlying5, ?_, ?_⟩
  · have hl : s.data.toList.length = s.size := by simp
    rw [hl]
    refine ⟨_, _, rfl, by rw [Lib.byteCells_length]; omega, grownCap_ge _ _ _ _, grownCap_le_maxLen _ _ _ _ hs, (fun h => by cases h), fun _ => ⟨_, _, rfl, fun j hj => ?_⟩⟩
    have hb : (w.drew.alloc (.cells (bytesRow s (grownCap w s.size 0 5)) 5 ((bytesRow s (grownCap w s.size 0 5)).size, (bytesRow s (grownCap w s.size 0 5)).size + 1))).heap[w.heap.size]? = some (.cells (bytesRow s (grownCap w s.size 0 5)) 5 ((bytesRow s (grownCap w s.size 0 5)).size, (bytesRow s (grownCap w s.size 0 5)).size + 1)) := by
      show (w.heap.push _)[w.heap.size]? = _
      simp
    rw [Nat.zero_add]
    rw [Nat.mul_one] at hj
    have hj2 : j < s.data.size := hj
    have hc : (bytesRow s (grownCap w s.size 0 5))[j]? = (byteCells s.data.toList)[j]? := by
      simp [bytesRow, byteCells, Array.getElem?_append]
      intro h
      omega
    rw [← hc]
    unfold World.cell?
    simp only []
    rw [hb]
    rfl
  · exact (Below.refl _ w).drew.alloc (Nat.le_refl _) _

set_option maxRecDepth 100000 in
theorem ratom_any (s : ByteArray) (w : World) (hs : s.size ≤ 100000) : Calls Tryd.prog 73 #[.string s] w (NewB w (atomB s)) := by
  obtain ⟨W0, hW0⟩ : ∃ W0, w.alloc (.cells #[.int .u8 119, .int .u8 ((s.size : Int) % 256)] 5) = W0 := ⟨_, rfl⟩
  have hb0 : Bs w.heap.size W0 (.slice (some ⟨w.heap.size, 0, none⟩) 2 2) [119, b8 (s.size : Int)] := by
    rw [← hW0]
    exact Bs.new w [_, _] _ 2 (by simp [byteCells, b8_val]) rfl (by omega)
  have hbe0 : Below w.heap.size w W0 := by rw [← hW0]; exact (Below.refl _ _).alloc (Nat.le_refl _) _
  obtain ⟨cap, W1, hcv, hrd, hbe⟩ := conv_str W0 s (by unfold maxLen; omega)
  have hb1 := hb0.below hbe
  have hl : s.data.toList.length = s.size := by simp
  rw [hl] at hrd
  have HB1 := Lib.hid hb1
  have HRD := Lib.hid hrd
  have HBE := Lib.hid (hbe0.trans (hbe.mono hbe0.size))
  have hz := HBE.out.size
  have hz0 := hbe0.size
  obtain ⟨k0, hk0⟩ : ∃ k0, W0.heap.size = k0 := ⟨_, rfl⟩
  rw [hk0] at hcv HRD
  clear hb0 hbe0 hrd hbe hb1 hz0
  go_enter Tryd.func73, Tryd.ntmps73
  go_wp2_with (at_builtin; refine wpList_bytes_rd (.tmp 8) (.tmp 10) s.data.toList rfl rfl rfl rfl HB1.out (by rw [hl]; exact HRD.out) hz (by simp; omega) ?next)
  case next =>
    intro v2 w2 h2
    have H2 := Lib.hid h2
    clear h2
    go_wp2_with fail
    go_ret
    exact ⟨_, rfl, H2.out.bs, HBE.out.trans H2.out.bel⟩
/-! ### whole -/
theorem Bs.store1 {B : Nat} {w : World} {g off cap : Nat} {a b x : UInt8} {ys : List UInt8} {n : Nat} (h : Bs B w (.slice (some ⟨g, off, none⟩) n cap) (a :: b :: ys)) (hn : n = (a :: b :: ys).length) : Bs B (w.setCell ⟨g, off + 1, none⟩ (.int .u8 (x.toNat : Int))) (.slice (some ⟨g, off, none⟩) n cap) (a :: x :: ys) := by
  subst hn
  have := h.sl.store 1 (by simp) (.int .u8 (x.toNat : Int))
  exact ⟨this, h.own⟩

set_option maxHeartbeats 1600000 in
set_option maxRecDepth 100000 in
theorem whole_any (n : Int) (hn : -9223372036854775808 ≤ n ∧ n ≤ 9223372036854775807) (w : World) : Calls Tryd.prog 72 #[.int .i64 n] w (NewB w (intB n)) := by
  obtain ⟨hn1, hn2⟩ := hn
  by_cases hs : 0 ≤ n ∧ n < 256
  · have HF : Hid (intB n = [97, b8 n]) := Lib.hid (by unfold intB; rw [if_pos hs])
    obtain ⟨hs1, hs2⟩ := hs
    have q1 : decide (0 ≤ n) = true := decide_eq_true hs1
    have q2 : decide (n ≤ 255) = true := decide_eq_true (by omega)
    have q3 : n % 256 = n := by omega
    go_enter Tryd.func72, Tryd.ntmps72
    go_wp2_with fail
    go_ret
    rw [HF.out]
    exact NewB.of (cs := [_, _]) (by simp [byteCells, b8_val]; try omega) rfl (by omega)
  · by_cases hm : -2147483648 ≤ n ∧ n < 2147483648
    · have HF : Hid (intB n = 98 :: be4 n) := Lib.hid (by unfold intB; rw [if_neg hs, if_pos hm])
      obtain ⟨hm1, hm2⟩ := hm
      have hs' : n < 0 ∨ 256 ≤ n := by omega
      have q3 : decide (-2147483648 ≤ n) = true := decide_eq_true hm1
      have q4 : decide (n < 2147483648) = true := decide_eq_true hm2
      have hb0 : Bs w.heap.size (w.alloc (.cells #[.int .u8 98] 5)) (.slice (some ⟨w.heap.size, 0, none⟩) 1 1) [98] := Bs.new w [.int .u8 98] [98] 1 rfl rfl (by omega)
      have hbe0 : Below w.heap.size w (w.alloc (.cells #[.int .u8 98] 5)) := (Below.refl _ _).alloc (Nat.le_refl _) _
      have HB0 := Lib.hid hb0
      have HBE0 := Lib.hid hbe0
      have H40 := Lib.hid (four_any n (w.alloc (.cells #[.int .u8 98] 5)))
      clear hs hb0 hbe0
      rcases hs' with hs | hs
      · have q1 : decide (0 ≤ n) = false := decide_eq_false (by omega)
        go_enter Tryd.func72, Tryd.ntmps72
        go_wp2_with fail
        refine (H40.out).mono ?_
        rintro e w1 ⟨v1, rfl, hb1, hbe1⟩
        have HB1 := Lib.hid hb1
        have HB0' := Lib.hid (HB0.out.below hbe1)
        have HBE1 := Lib.hid (HBE0.out.trans (hbe1.mono HBE0.out.size))
        have hz := HBE1.out.size
        clear hb1 hbe1
        go_wp2_with (at_builtin; refine wpList_bytes_rd (.tmp 23) (.tmp 25) (be4 n) rfl rfl rfl rfl HB0'.out HB1.out.sl.rd hz (by simp [be4]) ?next)
        case next =>
          intro v2 w2 h2
          have H2 := Lib.hid h2
          clear h2
          go_wp2_with fail
          go_ret
          exact ⟨_, rfl, by rw [HF.out]; exact H2.out.bs, HBE1.out.trans H2.out.bel⟩
      · have q1 : decide (0 ≤ n) = true := decide_eq_true (by omega)
        have q2 : decide (n ≤ 255) = false := decide_eq_false (by omega)
        go_enter Tryd.func72, Tryd.ntmps72
        go_wp2_with fail
        refine (H40.out).mono ?_
        rintro e w1 ⟨v1, rfl, hb1, hbe1⟩
        have HB1 := Lib.hid hb1
        have HB0' := Lib.hid (HB0.out.below hbe1)
        have HBE1 := Lib.hid (HBE0.out.trans (hbe1.mono HBE0.out.size))
        have hz := HBE1.out.size
        clear hb1 hbe1
        go_wp2_with (at_builtin; refine wpList_bytes_rd (.tmp 23) (.tmp 25) (be4 n) rfl rfl rfl rfl HB0'.out HB1.out.sl.rd hz (by simp [be4]) ?next)
        case next =>
          intro v2 w2 h2
          have H2 := Lib.hid h2
          clear h2
          go_wp2_with fail
          go_ret
          exact ⟨_, rfl, by rw [HF.out]; exact H2.out.bs, HBE1.out.trans H2.out.bel⟩
    · have HF : Hid (intB n = [110, b8 ((leL n.natAbs).length : Int), if n < 0 then 1 else 0] ++ leL n.natAbs) := Lib.hid (by unfold intB; rw [if_neg hs, if_neg hm])
      rcases (show n < -2147483648 ∨ 2147483648 ≤ n by omega) with hs' | hs'
      · have q1 : decide (0 ≤ n) = false := decide_eq_false (by omega)
        have q3 : decide (-2147483648 ≤ n) = false := decide_eq_false (by omega)
        have q5 : decide (n < 0) = true := decide_eq_true (by omega)
        obtain ⟨m, hm0⟩ : ∃ m, n.natAbs = m := ⟨_, rfl⟩
        have hw : IntKind.u64.wrap (-IntKind.u64.wrap n) = (m : Int) := by rw [IntKind.wrap_u64, IntKind.wrap_u64]; omega
        have hm1 : m ≤ 9223372036854775808 := by omega
        rw [if_pos (by omega), hm0] at HF
        clear hm0 hs hm
        have hb0 : Bs w.heap.size (w.alloc (.cells #[.int .u8 110, .int .u8 0, .int .u8 1] 5)) (.slice (some ⟨w.heap.size, 0, none⟩) 3 3) [110, 0, 1] := Bs.new w [.int .u8 110, .int .u8 0, .int .u8 1] [110, 0, 1] 3 rfl rfl (by omega)
        have hbe0 : Below w.heap.size w (w.alloc (.cells #[.int .u8 110, .int .u8 0, .int .u8 1] 5)) := (Below.refl _ _).alloc (Nat.le_refl _) _
        have HB0 := Lib.hid hb0
        have HBE0 := Lib.hid hbe0
        clear hb0 hbe0
        go_enter Tryd.func72, Tryd.ntmps72
        go_wp2_with fail
        go_loopg [4, 6] 8 (fun g s4 s6 wr => ∃ (mm : Nat) (ys : List UInt8), s4 = .int .u64 mm ∧ ys.length + g = 8 ∧ mm < 256 ^ g ∧ Bs w.heap.size wr s6 (110 :: 0 :: 1 :: ys) ∧ Below w.heap.size w wr ∧ Hid (leL m = ys ++ leN g mm))
        case atStart => exact ⟨m, [], rfl, rfl, by omega, HB0.out, HBE0.out, Lib.hid rfl⟩
        case round =>
          obtain ⟨mm, ys, rfl, hg, hlt, hd, hbe, hI⟩ := hrel
          have hz := hbe.size
          by_cases hmm : mm = 0
          · subst hmm
            have HL : Hid (leL m = ys) := Lib.hid (by rw [hI.out]; cases gk <;> simp [leN])
            obtain ⟨g0, off, cap, cur, hv, hc1, hc2, _⟩ := hd.sl.blk (by simp)
            subst hv
            have d1 := hd.sl.cell 1 (by simp)
            rw [show (byteCells (110 :: 0 :: 1 :: ys))[1]? = some (.int .u8 0) from rfl] at d1
            have d2 := hd.sl.free (off + 1)
            have hg0 := hd.own g0 rfl
            have hb8 := b8_val (ys.length : Int)
            have HD := Lib.hid hd
            have HBE := Lib.hid hbe
            have hy : ys.length ≤ 8 := by omega
            have hlen : (110 :: 0 :: 1 :: ys).length = ys.length + 3 := rfl
            rw [hlen] at hc1 ⊢
            unfold maxLen at hc2
            clear hI hd hbe hlt hg
            go_wp2_with fail
            go_ret
            refine ⟨_, rfl, ?_, ?_⟩
            · rw [HF.out, HL.out]
              have := HD.out.store1 (x := b8 (ys.length : Int)) hlen.symm
              rw [hb8, show (ys.length : Int) % 256 = (ys.length : Int) by omega] at this
              exact this
            · exact HBE.out.trans (((Fr.refl (fun k => k = g0) _).setCell (p := ⟨g0, off + 1, none⟩) (.inl rfl) _).below hz (fun k hk => by subst hk; exact hg0))
          · obtain ⟨g, rfl⟩ : ∃ g, gk = g + 1 := by
              cases gk with
              | zero => simp at hlt; omega
              | succ g => exact ⟨g, rfl⟩
            have HI2 : Hid (leL m = (ys ++ [b8 (mm : Int)]) ++ leN g (mm / 256)) := Lib.hid (by rw [hI.out]; simp only [leN]; rw [if_neg hmm]; simp)
            have hlt2 : mm / 256 < 256 ^ g := by rw [Nat.pow_succ] at hlt; omega
            have HLT := Lib.hid hlt2
            have q6 : decide ((0 : Int) < (mm : Int)) = true := decide_eq_true (by omega)
            have q7 : decide (0 < mm) = true := decide_eq_true (by omega)
            have HD := Lib.hid hd
            have HBE := Lib.hid hbe
            clear hI hlt hlt2 hd hbe hmm
            go_wp2_with (at_builtin; refine wpList_bytes (.tmp 37) (.tmp 40) [b8 (mm : Int)] _ 1 rfl rfl rfl rfl HD.out (bytes1 _) rfl (by omega) (by simp; omega) ?next)
            case next =>
              intro v2 w2 h1
              have HB2 := Lib.hid (HBE.out.trans h1.bel)
              have H1 := Lib.hid h1.bs
              clear h1
              go_wp2_with fail
              go_roundg g
              case measure => omega
              case rel => exact ⟨mm / 256, ys ++ [b8 (mm : Int)], by first | rfl | simp, by simp; omega, HLT.out, H1.out, HB2.out, HI2⟩
      · have q1 : decide (0 ≤ n) = true := decide_eq_true (by omega)
        have q2 : decide (n ≤ 255) = false := decide_eq_false (by omega)
        have q3 : decide (-2147483648 ≤ n) = true := decide_eq_true (by omega)
        have q4 : decide (n < 2147483648) = false := decide_eq_false (by omega)
        have q5 : decide (n < 0) = false := decide_eq_false (by omega)
        obtain ⟨m, rfl⟩ : ∃ m : Nat, n = (m : Int) := ⟨n.toNat, by omega⟩
        have hm1 : m ≤ 9223372036854775808 := by omega
        rw [if_neg (by omega), show (m : Int).natAbs = m by simp] at HF
        clear hs hm
        have hb0 : Bs w.heap.size (w.alloc (.cells #[.int .u8 110, .int .u8 0, .int .u8 0] 5)) (.slice (some ⟨w.heap.size, 0, none⟩) 3 3) [110, 0, 0] := Bs.new w [.int .u8 110, .int .u8 0, .int .u8 0] [110, 0, 0] 3 rfl rfl (by omega)
        have hbe0 : Below w.heap.size w (w.alloc (.cells #[.int .u8 110, .int .u8 0, .int .u8 0] 5)) := (Below.refl _ _).alloc (Nat.le_refl _) _
        have HB0 := Lib.hid hb0
        have HBE0 := Lib.hid hbe0
        clear hb0 hbe0
        go_enter Tryd.func72, Tryd.ntmps72
        go_wp2_with fail
        go_loopg [4, 6] 8 (fun g s4 s6 wr => ∃ (mm : Nat) (ys : List UInt8), s4 = .int .u64 mm ∧ ys.length + g = 8 ∧ mm < 256 ^ g ∧ Bs w.heap.size wr s6 (110 :: 0 :: 0 :: ys) ∧ Below w.heap.size w wr ∧ Hid (leL m = ys ++ leN g mm))
        case atStart => exact ⟨m, [], rfl, rfl, by omega, HB0.out, HBE0.out, Lib.hid rfl⟩
        case round =>
          obtain ⟨mm, ys, rfl, hg, hlt, hd, hbe, hI⟩ := hrel
          have hz := hbe.size
          by_cases hmm : mm = 0
          · subst hmm
            have HL : Hid (leL m = ys) := Lib.hid (by rw [hI.out]; cases gk <;> simp [leN])
            obtain ⟨g0, off, cap, cur, hv, hc1, hc2, _⟩ := hd.sl.blk (by simp)
            subst hv
            have d1 := hd.sl.cell 1 (by simp)
            rw [show (byteCells (110 :: 0 :: 0 :: ys))[1]? = some (.int .u8 0) from rfl] at d1
            have d2 := hd.sl.free (off + 1)
            have hg0 := hd.own g0 rfl
            have hb8 := b8_val (ys.length : Int)
            have HD := Lib.hid hd
            have HBE := Lib.hid hbe
            have hy : ys.length ≤ 8 := by omega
            have hlen : (110 :: 0 :: 0 :: ys).length = ys.length + 3 := rfl
            rw [hlen] at hc1 ⊢
            unfold maxLen at hc2
            clear hI hd hbe hlt hg
            go_wp2_with fail
            go_ret
            refine ⟨_, rfl, ?_, ?_⟩
            · rw [HF.out, HL.out]
              have := HD.out.store1 (x := b8 (ys.length : Int)) hlen.symm
              rw [hb8, show (ys.length : Int) % 256 = (ys.length : Int) by omega] at this
              exact this
            · exact HBE.out.trans (((Fr.refl (fun k => k = g0) _).setCell (p := ⟨g0, off + 1, none⟩) (.inl rfl) _).below hz (fun k hk => by subst hk; exact hg0))
          · obtain ⟨g, rfl⟩ : ∃ g, gk = g + 1 := by
              cases gk with
              | zero => simp at hlt; omega
              | succ g => exact ⟨g, rfl⟩
            have HI2 : Hid (leL m = (ys ++ [b8 (mm : Int)]) ++ leN g (mm / 256)) := Lib.hid (by rw [hI.out]; simp only [leN]; rw [if_neg hmm]; simp)
            have hlt2 : mm / 256 < 256 ^ g := by rw [Nat.pow_succ] at hlt; omega
            have HLT := Lib.hid hlt2
            have q6 : decide ((0 : Int) < (mm : Int)) = true := decide_eq_true (by omega)
            have q7 : decide (0 < mm) = true := decide_eq_true (by omega)
            have HD := Lib.hid hd
            have HBE := Lib.hid hbe
            clear hI hlt hlt2 hd hbe hmm
            go_wp2_with (at_builtin; refine wpList_bytes (.tmp 37) (.tmp 40) [b8 (mm : Int)] _ 1 rfl rfl rfl rfl HD.out (bytes1 _) rfl (by omega) (by simp; omega) ?next)
            case next =>
              intro v2 w2 h1
              have HB2 := Lib.hid (HBE.out.trans h1.bel)
              have H1 := Lib.hid h1.bs
              clear h1
              go_wp2_with fail
              go_roundg g
              case measure => omega
              case rel => exact ⟨mm / 256, ys ++ [b8 (mm : Int)], by first | rfl | simp, by simp; omega, HLT.out, H1.out, HB2.out, HI2⟩
end Go.Proofs.YtkhjdcnlpablkaaDoor

/-! The document's run and short: where the elements of a list begin; are all bytes? -/
namespace Go.Proofs.YtkhjdcnlpablkaaDoor
open Go.RowKit
open Go.Lib (byteCells)

theorem Tryd.info3 : (Tryd.prog.info? 3).map (fun i => (i.zero, i.size, i.bytes)) = some (some (.int .i64 0), 1, 8) := by kernel_rfl

/-- Where the elements begin. -/
def plcs : T → Nat → List Nat
  | .cons h t, k => (k + 1) :: plcs t (k + 1 + h.sz)
  | .leaf _, _ => []
  | .tup _ _, _ => []
def nats (l : List Nat) : List Value := l.map fun (k : Nat) => Value.int .i64 (k : Int)
theorem nats_app (a b : List Nat) : nats (a ++ b) = nats a ++ nats b := by unfold nats; rw [List.map_append]
theorem nats_len (a : List Nat) : (nats a).length = a.length := by unfold nats; simp
theorem nats_one (l : List Nat) : ∀ u ∈ nats l, u.oneCell' = true := by
  intro u hu
  obtain ⟨k, _, rfl⟩ := List.mem_map.1 hu
  rfl
theorem plcs_len (a : T) : ∀ k, (plcs a k).length = runLen a := by
  induction a using T.byTail with
  | hl c => intro k; rfl
  | ht c ks => intro k; rfl
  | hc h t ih => intro k; simp only [plcs, runLen, List.length_cons, ih]

set_option maxHeartbeats 3200000 in
set_option maxRecDepth 100000 in
theorem rrun_any (t : List Ce) (v : Value) (hlen : t.length ≤ 1024) (at' : Nat) (a : T) (r : List Ce) (hw : a.wf) (hd : t.drop at' = a.cells ++ r) (w : World) (hrd : Rd w 3 v t.length (cvs t)) :
    Calls Tryd.prog 83 #[v, .int .i64 at'] w fun e w' => ∃ v', e = .returned (.tuple #[v', .int .i64 ((at' + spLen a : Nat) : Int)]) ∧ Sl w' 3 1 v' (runLen a) (nats (plcs a at')) ∧ Below w.heap.size w w' := by
  obtain ⟨i0, hinf, hz0, hz1, hz2⟩ := info_parts Tryd.info3
  obtain ⟨ao, cap, rfl, hcap, hmax⟩ := hrd.shape
  have HR := Lib.hid hrd
  unfold maxLen at hmax
  clear hrd
  have HD := Lib.hid hd
  have hal : at' + a.sz ≤ t.length := by
    have := congrArg List.length hd
    rw [List.length_drop, List.length_append] at this
    have h1 := sz_pos a
    unfold T.sz at *
    omega
  have ha : a.sz ≤ 1024 := by omega
  clear hd
  go_enter Tryd.func83, Tryd.ntmps83
  go_wp2_with fail
  go_loopg [1, 6] a.sz (fun g s1 s6 wr => ∃ (k n : Nat) (ps : List Nat) (x : T), s1 = .int .i64 k ∧ Sl wr 3 1 s6 n (nats ps) ∧ (∀ q, s6.ownBlock = some q → w.heap.size ≤ q) ∧ x.sz ≤ g ∧ k + x.sz ≤ t.length ∧ n ≤ 1024 ∧ n + x.sz ≤ a.sz ∧ Below w.heap.size w wr ∧
    Hid (x.wf ∧ t.drop k = x.cells ++ r ∧ n + runLen x = runLen a ∧ k + spLen x = at' + spLen a ∧ plcs a at' = ps ++ plcs x k))
  case atStart => exact ⟨at', 0, [], a, rfl, Sl.nil _ _ _, (fun q hq => by simp [Value.ownBlock] at hq), Nat.le_refl _, hal, by omega, by omega, Below.refl _ _, Lib.hid ⟨hw, HD.out, by omega, rfl, rfl⟩⟩
  case round =>
    clear hal HD
    obtain ⟨k, n, ps, x, rfl, hsl, hown, hg, hkx, hn, hnx, hbe, hI⟩ := hrel
    obtain ⟨hxw, hxd, hx1, hx2, hx3⟩ := hI.out
    have hxp := sz_pos x
    have hrd := HR.out.below (Nat.le_refl _) hbe
    obtain ⟨g0, off, cap', hv, hq1, hq2, hq3⟩ := hrd.at (by omega)
    clear hq1 hq2 hq3
    simp at hv
    obtain ⟨rfl, rfl⟩ := hv
    obtain ⟨c0, c1, c2⟩ := rd_cell hrd rfl (drop_fst hxd)
    have hkt : k < t.length := by omega
    have hkz : (k : Int) < (t.length : Int) := by omega
    have hbz := hbe.size
    by_cases h7 : x.fst.kind = 7
    · obtain ⟨h, y, rfl⟩ := (fst_seven hxw).1 h7
      have hdh : t.drop (k + 1) = h.cells ++ (y.cells ++ r) := by
        have := drop_next (m := 1) (a := [consC]) (r := h.cells ++ (y.cells ++ r)) (by rw [hxd]; simp [T.cells]) rfl
        exact this
      have hsz := sz_cons h y
      have hp1 := sz_pos h
      have hp2 := sz_pos y
      have he := end_term hxw.1 hdh
      have hdy : t.drop (k + 1 + h.sz) = y.cells ++ r := drop_next hdh rfl
      have HIN : Hid (y.wf ∧ t.drop (k + 1 + h.sz) = y.cells ++ r ∧ (n + 1) + runLen y = runLen a ∧ (k + 1 + h.sz) + spLen y = at' + spLen a ∧ plcs a at' = (ps ++ [k + 1]) ++ plcs y (k + 1 + h.sz)) := Lib.hid ⟨hxw.2, hdy, by simp only [runLen] at hx1; omega, by simp only [spLen] at hx2; omega, by rw [hx3]; simp only [plcs, List.append_assoc, List.cons_append, List.nil_append]⟩
      have H75 : Hid (∀ W, Below w.heap.size w W → Calls Tryd.prog 75 #[.slice (some ⟨g0, off, none⟩) t.length cap, .int .i64 ((k : Int) + 1)] W fun e w' => e = .returned (.tuple #[.int .i64 ((k + 1 + h.sz : Nat) : Int), .int .i64 0]) ∧ Below W.heap.size W w') := Lib.hid (fun W hW => by
        have := rend_t t (.slice (some ⟨g0, off, none⟩) t.length cap) (k + 1) hlen W (HR.out.below (Nat.le_refl _) hW)
        rw [he] at this
        exact this)
      have hc7 : wr.cell? ⟨g0, off + k * 3, none⟩ = some (.int .i64 7) := c0
      have HSL := Lib.hid hsl
      have HOWN := Lib.hid hown
      have HBE := Lib.hid hbe
      have hnl : (nats ps).length = n := by have := hsl.len; omega
      have HLT := Lib.hid (⟨hg, hkx, hn, hnx, hsz, hp1, hp2⟩ : (T.cons h y).sz ≤ gk ∧ k + (T.cons h y).sz ≤ t.length ∧ n ≤ 1024 ∧ n + (T.cons h y).sz ≤ a.sz ∧ (T.cons h y).sz = 1 + h.sz + y.sz ∧ 1 ≤ h.sz ∧ 1 ≤ y.sz)
      have hk1 : (k : Int) + 1 ≤ 1024 := by omega
      obtain ⟨aos, caps, rfl, _, _⟩ := hsl.shape
      clear hI hxw hxd hx1 hx2 hx3 hrd c0 c1 c2 h7 hdh he hdy hsl hown hbe hxp hsz hg hkx hnx hn hp1 hp2
      go_wp2_with (at_builtin; refine wpList_append_sl rfl (.tmp 13) (.tmp 16) 99 rfl 3 i0 (.int .i64 0) 1 8 Tryd.underlying99 hinf hz0 hz1 hz2 rfl (by decide) _ n (nats ps) rfl (HSL.out.alloc _) ⟨wr.heap.size, 0, none⟩ 1 1 (nats [k + 1]) rfl rfl (cells_new wr (nats [k + 1]) 3) (nats_one _) (by have := HLT.out; unfold maxLen; omega) (by have := HLT.out; omega) ?next)
      case next =>
        intro v2 w2 h2 hf2 hv2
        obtain ⟨ao2, cap2, rfl, hc2, hm2⟩ := h2.shape
        have hF : Fr (fun q => Value.ownBlock (.slice aos n caps) = some q) wr w2 := ((Fr.refl _ wr).alloc _).trans hf2
        have hbe2 : Below w.heap.size w w2 := HBE.out.trans (hF.below hbz HOWN.out)
        have H1 := Lib.hid (H75.out w2 hbe2)
        have HBE2 := Lib.hid hbe2
        have HSL2 : Hid (Sl w2 3 1 (.slice ao2 (n + 1) cap2) (n + 1) (nats (ps ++ [k + 1]))) := Lib.hid (by rw [nats_app]; exact h2)
        have HOWN2 : Hid (∀ q, Value.ownBlock (.slice ao2 (n + 1) cap2) = some q → w.heap.size ≤ q) := Lib.hid (fun q hq => by
          rcases hv2 with e | e
          · exact HOWN.out q (e ▸ hq)
          · rw [e] at hq; simp at hq; omega)
        clear h2 hf2 hv2 hF hbe2 HSL HOWN HBE H75
        go_wp2_with fail
        refine (H1.out).mono ?_
        rintro e w3 ⟨rfl, hbe3⟩
        have HSL3 := Lib.hid (HSL2.out.keep fun q hq => hbe3.block q (HSL2.out.lt q hq))
        have HBE3 := Lib.hid (HBE2.out.trans (hbe3.mono HBE2.out.size))
        clear hbe3 HSL2 HBE2 H1
        go_wp2_with fail
        go_roundg (gk - 1)
        case measure => have := HLT.out; omega
        case rel => exact ⟨k + 1 + h.sz, n + 1, ps ++ [k + 1], y, rfl, HSL3.out, HOWN2.out, by have := HLT.out; omega, by have := HLT.out; omega, by have := HLT.out; omega, by have := HLT.out; omega, HBE3.out, HIN⟩
    · have hnc : runLen x = 0 ∧ spLen x = 0 ∧ plcs x k = [] := by
        cases x with
        | leaf c => exact ⟨rfl, rfl, rfl⟩
        | tup c ks => exact ⟨rfl, rfl, rfl⟩
        | cons h y => exact (h7 ((fst_seven hxw).2 ⟨_, _, rfl⟩)).elim
      have hkq : k = at' + spLen a := by omega
      have hnq : n = runLen a := by omega
      have hpq : plcs a at' = ps := by rw [hx3, hnc.2.2, List.append_nil]
      have q7 : (x.fst.kind == 7) = false := by simp; omega
      have HSL : Hid (Sl wr 3 1 u6 (runLen a) (nats (plcs a at'))) := Lib.hid (by rw [hpq, ← hnq]; exact hsl)
      obtain ⟨kd, hkd⟩ : ∃ kd, x.fst.kind = kd := ⟨_, rfl⟩
      rw [hkd] at c0 q7
      have HBE := Lib.hid hbe
      subst hkq
      clear hI hxw hxd hx1 hx2 hx3 hrd c1 c2 h7 hnc hpq hsl hown hbe hkd
      go_wp2_with fail
      go_ret2
      exact ⟨_, rfl, HSL.out, HBE.out⟩
end Go.Proofs.YtkhjdcnlpablkaaDoor

/-! The document's short: are all heads bytes, and does the list end in nil? -/
namespace Go.Proofs.YtkhjdcnlpablkaaDoor
open Go.RowKit
open Go.Lib (byteCells)

theorem nats_at {l : List Nat} {i k : Nat} (h : l[i]? = some k) : (nats l)[i]? = some (.int .i64 (k : Int)) := by unfold nats; rw [List.getElem?_map, h]; rfl
/-- The tail stands at its place. -/
theorem tail_at (t : List Ce) (a : T) : ∀ (k : Nat) (r : List Ce), t.drop k = a.cells ++ r → t.drop (k + spLen a) = (tailT a).cells ++ r := by
  induction a using T.byTail with
  | hl c => intro k r h; exact h
  | ht c ks => intro k r h; exact h
  | hc h y ih =>
    intro k r hd
    have h1 := drop_next (m := 1 + h.sz) (a := consC :: h.cells) (r := y.cells ++ r) (by rw [hd]; simp [T.cells]) (by simp [T.sz]; omega)
    have := ih _ _ h1
    simp only [spLen, tailT]
    rw [← this]
    congr 1
    omega
theorem tailn_nil {a : T} (h : (tailT a).wf) : isNil (tailT a) = decide ((tailT a).fst.kind = 6) := by
  have hnc : ∀ p q, tailT a ≠ .cons p q := by
    induction a using T.byTail with
    | hl c => intro p q e; cases e
    | ht c ks => intro p q e; cases e
    | hc x y ih => exact ih h
  cases hx : tailT a with
  | leaf c => rfl
  | tup c ks =>
    rw [hx] at h
    refine (decide_eq_false (fun e => ?_)).symm
    have h5 := h.2.1
    have h6 : c.kind = 6 := e
    omega
  | cons p q => exact (hnc p q hx).elim

set_option maxHeartbeats 3200000 in
set_option maxRecDepth 100000 in
theorem short_any (t : List Ce) (v pv : Value) (hlen : t.length ≤ 1024) (at' : Nat) (a : T) (r : List Ce) (hw : a.wf) (hd : t.drop at' = a.cells ++ r) (w : World) (hrd : Rd w 3 v t.length (cvs t)) (hp : Rd w 1 pv (runLen a) (nats (plcs a at'))) :
    Calls Tryd.prog 84 #[v, pv, .int .i64 ((at' + spLen a : Nat) : Int)] w fun e w' => e = .returned (.bool (charsOk a)) ∧ Below w.heap.size w w' := by
  obtain ⟨ao, cap, rfl, hcap, hmax⟩ := hrd.shape
  obtain ⟨aop, capp, rfl, hcapp, hmaxp⟩ := hp.shape
  have hrl := (run_le a).1
  have hal : at' + a.sz ≤ t.length := by
    have := congrArg List.length hd
    rw [List.length_drop, List.length_append] at this
    have h1 := sz_pos a
    unfold T.sz at *
    omega
  have htl := tail_at t a at' r hd
  have hsp := (run_le a).2
  have htw := tail_wf hw
  have htp := sz_pos (tailT a)
  have htn := tailn_nil htw
  obtain ⟨g0, off, cap', hv, hq1, hq2, hq3⟩ := hrd.at (by omega)
  clear hq1 hq2 hq3
  simp at hv
  obtain ⟨rfl, rfl⟩ := hv
  obtain ⟨c0, c1, c2⟩ := rd_cell hrd rfl (drop_fst htl)
  have HR := Lib.hid hrd
  have HP := Lib.hid hp
  have HD := Lib.hid hd
  obtain ⟨tk, htk⟩ : ∃ tk, at' + spLen a = tk := ⟨_, rfl⟩
  rw [htk] at c0 c1 c2 ⊢
  have htkl : tk < t.length := by omega
  have htkz : (tk : Int) < (t.length : Int) := by omega
  have hN : runLen a ≤ 1024 := by omega
  have HN := Lib.hid hN
  have HPL := Lib.hid (plcs_len a at')
  obtain ⟨kd, hkd⟩ : ∃ kd, (tailT a).fst.kind = kd := ⟨_, rfl⟩
  rw [hkd] at c0 htn
  unfold maxLen at hmax hmaxp
  by_cases h6 : kd = 6
  · have HC : Hid (charsOk a = allB a) := Lib.hid (by unfold charsOk; rw [htn, decide_eq_true h6, decide_eq_true (by omega)]; simp)
    have q1 : (kd == 6) = true := by simp; omega
    have q2 : (kd != 6) = false := by simp; omega
    obtain ⟨n, hn⟩ : ∃ n, runLen a = n := ⟨_, rfl⟩
    rw [hn] at HP HPL HN hN hcapp ⊢
    have hn65 : decide ((65535 : Int) < (n : Int)) = false := decide_eq_false (by omega)
    clear hrd hp hd hrl htl hsp htw htp htn h6 hkd htk c1 c2 hn
    go_enter Tryd.func84, Tryd.ntmps84
    go_wp2_with fail
    clear c0
    go_loopg [22] n (fun g s22 wr => ∃ (k q : Nat) (x : T) (ps : List Nat), s22 = .int .i64 k ∧ k + g = n ∧ q + x.sz ≤ t.length ∧ Below w.heap.size w wr ∧ Hid (x.wf ∧ t.drop q = x.cells ++ r ∧ runLen x = g ∧ plcs a at' = ps ++ plcs x q ∧ ps.length = k ∧ allB x = allB a))
    case atStart => exact ⟨0, at', a, [], rfl, by omega, hal, Below.refl _ _, Lib.hid ⟨hw, HD.out, by have := HPL.out; rw [plcs_len] at this; omega, rfl, rfl, rfl⟩⟩
    case round =>
      obtain ⟨k, q, x, ps, rfl, hkg, hqx, hbe, hI⟩ := hrel
      obtain ⟨hxw, hxd, hx1, hx2, hx3, hx4⟩ := hI.out
      cases gk with
      | zero =>
        obtain rfl : k = n := by omega
        have hT : Hid (charsOk a = true) := Lib.hid (by
          rw [HC.out, ← hx4]
          cases x with
          | leaf c => rfl
          | tup c ks => rfl
          | cons h y => simp [runLen] at hx1)
        clear hI hxw hxd hx1 hx2 hx3 hx4 hqx
        go_wp2_with fail
        go_ret
        exact ⟨by rw [hT.out]; rfl, hbe⟩
      | succ g =>
        cases x with
        | leaf c => simp [runLen] at hx1
        | tup c ks => simp [runLen] at hx1
        | cons h y =>
          have hdh : t.drop (q + 1) = h.cells ++ (y.cells ++ r) := by
            have := drop_next (m := 1) (a := [consC]) (r := h.cells ++ (y.cells ++ r)) (by rw [hxd]; simp [T.cells]) rfl
            exact this
          have hdy : t.drop (q + 1 + h.sz) = y.cells ++ r := drop_next hdh rfl
          have hsz := sz_cons h y
          have hp1 := sz_pos h
          have hp2 := sz_pos y
          have hrd := HR.out.below (Nat.le_refl _) hbe
          have hpr := HP.out.below (Nat.le_refl _) hbe
          obtain ⟨d0, d1, d2⟩ := rd_cell hrd rfl (drop_fst hdh)
          obtain ⟨gp, op, capq, hvp, hq1, hq2, hq3⟩ := hpr.at (by omega)
          simp at hvp
          obtain ⟨rfl, rfl⟩ := hvp
          have e0 := hq3 k (by omega)
          rw [nats_at (k := q + 1) (by rw [hx2, List.getElem?_append_right (by omega), hx3, Nat.sub_self]; rfl)] at e0
          have hby := isByte_fst hxw.1
          have hIN : Hid (y.wf ∧ t.drop (q + 1 + h.sz) = y.cells ++ r ∧ runLen y = g ∧ plcs a at' = (ps ++ [q + 1]) ++ plcs y (q + 1 + h.sz) ∧ (ps ++ [q + 1]).length = k + 1) := Lib.hid ⟨hxw.2, hdy, by simp only [runLen] at hx1; omega, by rw [hx2]; simp only [plcs, List.append_assoc, List.cons_append, List.nil_append], by simp [hx3]⟩
          have hAB : allB a = (isByte h && allB y) := by rw [← hx4]; rfl
          obtain ⟨f, hf⟩ : ∃ f, h.fst = f := ⟨_, rfl⟩
          rw [hf] at d0 d1 d2 hby
          have hqt : q + 1 < t.length := by omega
          have hqz : (q : Int) + 1 < (t.length : Int) := by omega
          have hkn : k < n := by omega
          have hkz : (k : Int) < (n : Int) := by omega
          have HBE := Lib.hid hbe
          have HSZ := Lib.hid (⟨hqx, hsz, hkg⟩ : q + (T.cons h y).sz ≤ t.length ∧ (T.cons h y).sz = 1 + h.sz + y.sz ∧ k + (g + 1) = n)
          clear hI hxw hxd hx1 hx2 hx3 hx4 hdh hdy hrd hpr hq1 hq2 hq3 hf hbe hqx hsz
          by_cases b1 : f.kind = 1
          · have w1 : (f.kind == 1) = true := by simp; omega
            have w1' : (f.kind != 1) = false := by simp; omega
            by_cases b2 : f.n < 0
            · have HF : Hid (charsOk a = false) := Lib.hid (by rw [HC.out, hAB, hby, decide_eq_false (by omega)]; rfl)
              have w2 : decide (f.n < 0) = true := decide_eq_true b2
              clear hAB hby
              go_wp2_with fail
              go_ret
              exact ⟨by rw [HF.out]; rfl, HBE.out⟩
            · have w2 : decide (f.n < 0) = false := decide_eq_false b2
              by_cases b3 : 255 < f.n
              · have HF : Hid (charsOk a = false) := Lib.hid (by rw [HC.out, hAB, hby, decide_eq_false (by omega)]; rfl)
                have w3 : decide (255 < f.n) = true := decide_eq_true b3
                clear hAB hby
                go_wp2_with fail
                go_ret
                exact ⟨by rw [HF.out]; rfl, HBE.out⟩
              · have w3 : decide (255 < f.n) = false := decide_eq_false b3
                have HAB : Hid (allB y = allB a) := Lib.hid (by rw [hAB, hby, decide_eq_true ⟨b1, by omega, by omega⟩]; rfl)
                clear hAB hby
                go_wp2_with fail
                go_roundg g
                case measure => omega
                case rel => exact ⟨k + 1, q + 1 + h.sz, y, ps ++ [q + 1], by go_num, by have := HSZ.out; omega, by have := HSZ.out; omega, HBE.out, Lib.hid ⟨hIN.out.1, hIN.out.2.1, hIN.out.2.2.1, hIN.out.2.2.2.1, hIN.out.2.2.2.2, HAB.out⟩⟩
          · have w1 : (f.kind == 1) = false := by simp; omega
            have w1' : (f.kind != 1) = true := by simp; omega
            have HF : Hid (charsOk a = false) := Lib.hid (by rw [HC.out, hAB, hby, decide_eq_false (by omega)]; rfl)
            clear hAB hby
            go_wp2_with fail
            go_ret
            exact ⟨by rw [HF.out]; rfl, HBE.out⟩
  · have HC : Hid (charsOk a = false) := Lib.hid (by unfold charsOk; rw [htn, decide_eq_false h6]; simp)
    have q1 : (kd == 6) = false := by simp; omega
    have q2 : (kd != 6) = true := by simp; omega
    clear hrd hp hd hrl htl hsp htw htp htn h6 hkd htk c1 c2
    go_enter Tryd.func84, Tryd.ntmps84
    go_wp2_with fail
    go_ret
    exact ⟨by rw [HC.out]; rfl, Below.refl _ _⟩
end Go.Proofs.YtkhjdcnlpablkaaDoor

/-! The document's term: a leaf, a tuple. (Printed by genRterm.py.) -/
namespace Go.Proofs.YtkhjdcnlpablkaaDoor
open Go.RowKit
open Go.Lib (byteCells)

def RT (t : List Ce) (tv : Value) (a : T) : Prop := ∀ (w : World) (at' : Nat) (r : List Ce), Rd w 3 tv t.length (cvs t) → t.drop at' = a.cells ++ r → Calls Tryd.prog 38 #[tv, .int .i64 at'] w (NewB w a.enc)

/-- Bytes that grow beside a cell's box. -/
structure RtI (w wi : World) (v : Value) (xs : List UInt8) (c : Ce) : Prop where
  bs : Bs w.heap.size wi v xs
  bel : Below w.heap.size w wi
  box : wi.heap[w.heap.size]? = some (.cells #[.int .i64 c.kind, .int .i64 c.n, .string c.text] 60 (0, 0))
section
variable {w wi wj : World} {v v' : Value} {xs ys : List UInt8} {c : Ce}
theorem RtI.start (w : World) (c : Ce) : RtI w (w.alloc (.cells #[.int .i64 c.kind, .int .i64 c.n, .string c.text] 60)) (.slice none 0 0) [] c := ⟨Bs.nil _ _, (Below.refl _ _).alloc (Nat.le_refl _) _, heap_alloc_new w _⟩
theorem RtI.call (h : RtI w wi v xs c) (hb : Below wi.heap.size wi wj) : RtI w wj v xs c := ⟨h.bs.below hb, h.bel.trans (hb.mono h.bel.size), (hb.block _ (blk_lt h.box)).trans h.box⟩
theorem RtI.app (h : RtI w wi v xs c) (k : Wr w.heap.size wi v wj v' ys) : RtI w wj v' ys c := ⟨k.bs, h.bel.trans k.bel, k.fr.at h.box (fun e => h.bs.sl.ne h.box (by decide) _ e rfl)⟩
theorem RtI.size (h : RtI w wi v xs c) : w.heap.size ≤ wi.heap.size := h.bel.size
theorem RtI.cells (h : RtI w wi v xs c) : wi.cell? ⟨w.heap.size, 0, none⟩ = some (.int .i64 c.kind) ∧ wi.cell? ⟨w.heap.size, 1, none⟩ = some (.int .i64 c.n) ∧ wi.cell? ⟨w.heap.size, 2, none⟩ = some (.string c.text) := ⟨blk_cell h.box 0, blk_cell h.box 1, blk_cell h.box 2⟩
end
theorem b8_low (n : Int) : be4 (n % 4294967296) = be4 n := by
  have e : ∀ a b : Int, a % 256 = b % 256 → b8 a = b8 b := fun a b h => by unfold b8; rw [h]
  unfold be4
  rw [e (n % 4294967296 / 16777216) (n / 16777216) (by omega), e (n % 4294967296 / 65536) (n / 65536) (by omega), e (n % 4294967296 / 256) (n / 256) (by omega), e (n % 4294967296) n (by omega)]
theorem node_lit : (⟨#[110, 111, 110, 111, 100, 101, 64, 110, 111, 104, 111, 115, 116]⟩ : ByteArray) = nodeS := rfl

set_option maxHeartbeats 3200000 in
set_option maxRecDepth 100000 in
theorem rleaf1 (t : List Ce) (tv : Value) (hN : ∀ c ∈ t, c.i64) (c : Ce) (hw : (T.leaf c).wf) (hk : c.kind = 1) : RT t tv (.leaf c) := by
  intro w at' r hR hd
  obtain ⟨ao, cap, rfl, hcap, hmax⟩ := hR.shape
  unfold maxLen at hmax
  have hmem := drop_fst hd
  have hlt := (List.getElem?_eq_some_iff.1 hmem).1
  have hlz : (at' : Int) < (t.length : Int) := by omega
  obtain ⟨hn1, hn2⟩ := hN _ (List.mem_of_getElem? hmem)
  obtain ⟨g0, off, cap', hv, hq1, hq2, hq3⟩ := hR.at (by omega)
  clear hq1 hq2 hq3
  simp at hv
  obtain ⟨rfl, rfl⟩ := hv
  obtain ⟨d0, d1, d2⟩ := rd_cell hR rfl hmem
  have HI0 := Lib.hid (RtI.start w (T.leaf c).fst)
  rw [show (T.leaf c).fst = c from rfl] at d0 d1 d2 HI0 hn1 hn2
  have HZ := Lib.hid (cell_zero hw.1)
  have HB := Lib.hid (enc_leaf c)
  clear hmem hd hR hw hN
  obtain ⟨ck, cn, cs⟩ := c
  simp only at d0 d1 d2 hk hn1 hn2
  subst hk
  obtain ⟨c0, c1, c2⟩ := HI0.out.cells
  have hz := HI0.out.size
  have H := Lib.hid (whole_any cn ⟨hn1, hn2⟩ (w.alloc (.cells #[.int .i64 1, .int .i64 cn, .string cs] 60)))
  go_enter Tryd.func38, Tryd.ntmps38
  go_wp2_with fail
  refine (H.out).mono ?_
  rintro e w1 ⟨u, rfl, hu, hbe⟩
  have HU := Lib.hid hu
  have HI1 := Lib.hid (HI0.out.call hbe)
  have HZ0 := Lib.hid hz
  clear hu hbe
  go_wp2_with fail
  go_ret
  exact ⟨_, rfl, by rw [HB.out]; exact ⟨HU.out.sl, fun k hk => by have := HU.out.own k hk; have := HZ0.out; omega⟩, HI1.out.bel⟩

set_option maxHeartbeats 3200000 in
set_option maxRecDepth 100000 in
theorem rleaf2 (t : List Ce) (tv : Value) (hN : ∀ c ∈ t, c.i64) (c : Ce) (hw : (T.leaf c).wf) (hk : c.kind = 2) : RT t tv (.leaf c) := by
  intro w at' r hR hd
  obtain ⟨ao, cap, rfl, hcap, hmax⟩ := hR.shape
  unfold maxLen at hmax
  have hmem := drop_fst hd
  have hlt := (List.getElem?_eq_some_iff.1 hmem).1
  have hlz : (at' : Int) < (t.length : Int) := by omega
  obtain ⟨hn1, hn2⟩ := hN _ (List.mem_of_getElem? hmem)
  obtain ⟨g0, off, cap', hv, hq1, hq2, hq3⟩ := hR.at (by omega)
  clear hq1 hq2 hq3
  simp at hv
  obtain ⟨rfl, rfl⟩ := hv
  obtain ⟨d0, d1, d2⟩ := rd_cell hR rfl hmem
  have HI0 := Lib.hid (RtI.start w (T.leaf c).fst)
  rw [show (T.leaf c).fst = c from rfl] at d0 d1 d2 HI0 hn1 hn2
  have HZ := Lib.hid (cell_zero hw.1)
  have HB := Lib.hid (enc_leaf c)
  clear hmem hd hR hw hN
  obtain ⟨ck, cn, cs⟩ := c
  simp only at d0 d1 d2 hk hn1 hn2
  subst hk
  obtain ⟨c0, c1, c2⟩ := HI0.out.cells
  have hz := HI0.out.size
  have hsz : cs.size ≤ 100000 := by have := (HZ.out.2.2.2.2.2.2.2.1 rfl).1; simp only at this; omega
  have H := Lib.hid (ratom_any cs (w.alloc (.cells #[.int .i64 2, .int .i64 cn, .string cs] 60)) hsz)
  go_enter Tryd.func38, Tryd.ntmps38
  go_wp2_with fail
  refine (H.out).mono ?_
  rintro e w1 ⟨u, rfl, hu, hbe⟩
  have HU := Lib.hid hu
  have HI1 := Lib.hid (HI0.out.call hbe)
  have HZ0 := Lib.hid hz
  clear hu hbe
  go_wp2_with fail
  go_ret
  exact ⟨_, rfl, by rw [HB.out]; exact ⟨HU.out.sl, fun k hk => by have := HU.out.own k hk; have := HZ0.out; omega⟩, HI1.out.bel⟩

set_option maxHeartbeats 3200000 in
set_option maxRecDepth 100000 in
theorem rleaf3 (t : List Ce) (tv : Value) (hN : ∀ c ∈ t, c.i64) (c : Ce) (hw : (T.leaf c).wf) (hk : c.kind = 3) : RT t tv (.leaf c) := by
  intro w at' r hR hd
  obtain ⟨ao, cap, rfl, hcap, hmax⟩ := hR.shape
  unfold maxLen at hmax
  have hmem := drop_fst hd
  have hlt := (List.getElem?_eq_some_iff.1 hmem).1
  have hlz : (at' : Int) < (t.length : Int) := by omega
  obtain ⟨hn1, hn2⟩ := hN _ (List.mem_of_getElem? hmem)
  obtain ⟨g0, off, cap', hv, hq1, hq2, hq3⟩ := hR.at (by omega)
  clear hq1 hq2 hq3
  simp at hv
  obtain ⟨rfl, rfl⟩ := hv
  obtain ⟨d0, d1, d2⟩ := rd_cell hR rfl hmem
  have HI0 := Lib.hid (RtI.start w (T.leaf c).fst)
  rw [show (T.leaf c).fst = c from rfl] at d0 d1 d2 HI0 hn1 hn2
  have HZ := Lib.hid (cell_zero hw.1)
  have HB := Lib.hid (enc_leaf c)
  clear hmem hd hR hw hN
  obtain ⟨ck, cn, cs⟩ := c
  simp only at d0 d1 d2 hk hn1 hn2
  subst hk
  obtain ⟨c0, c1, c2⟩ := HI0.out.cells
  have hz := HI0.out.size
  go_enter Tryd.func38, Tryd.ntmps38
  go_wp2_with (at_builtin; refine wpList_bytesAt (.tmp 26) (.tmp 27) [90, 0, 2] _ 3 _ (by simp) rfl rfl rfl rfl HI0.out.bs (by simp [byteCells]) rfl hz (by simp) ?next)
  case next =>
    intro v1 w1 h1
    have HI1 := Lib.hid (HI0.out.app h1)
    clear h1 HI0 hz c0 c1 c2
    obtain ⟨c0, c1, c2⟩ := HI1.out.cells
    have hz := HI1.out.size
    go_wp2_with fail
    refine (ratom_any nodeS _ (by rw [node_size]; omega)).mono ?_
    rintro e w2 ⟨u, rfl, hu, hbe⟩
    have HI2 := Lib.hid (HI1.out.call hbe)
    have HU := Lib.hid hu.sl.rd
    clear hu hbe HI1 hz c0 c1 c2
    obtain ⟨c0, c1, c2⟩ := HI2.out.cells
    have hz := HI2.out.size
    go_wp2_with (at_builtin; refine wpList_bytes_rd (.tmp 29) (.tmp 30) (atomB nodeS) rfl rfl rfl rfl HI2.out.bs HU.out hz (by simp [atomB_len, node_size]) ?next)
    case next =>
      intro v3 w3 h3
      have HI3 := Lib.hid (HI2.out.app h3)
      clear h3 HI2 hz c0 c1 c2
      obtain ⟨c0, c1, c2⟩ := HI3.out.cells
      have hz := HI3.out.size
      clear HU
      go_wp2_with (at_builtin; refine wpList_bytesAt (.tmp 32) (.tmp 33) [0, 0, 0, 0] _ 4 _ (by simp) rfl rfl rfl rfl HI3.out.bs (by simp [byteCells]) rfl hz (by simp [atomB_len, node_size]) ?next)
      case next =>
        intro v4 w4 h4
        have HI4 := Lib.hid (HI3.out.app h4)
        clear h4 HI3 hz c0 c1 c2
        obtain ⟨c0, c1, c2⟩ := HI4.out.cells
        have hz := HI4.out.size
        go_wp2_with fail
        refine (four_any cn _).mono ?_
        rintro e w5 ⟨u, rfl, hu, hbe⟩
        have HI5 := Lib.hid (HI4.out.call hbe)
        have HU := Lib.hid hu.sl.rd
        clear hu hbe HI4 hz c0 c1 c2
        obtain ⟨c0, c1, c2⟩ := HI5.out.cells
        have hz := HI5.out.size
        go_wp2_with (at_builtin; refine wpList_bytes_rd (.tmp 35) (.tmp 38) (be4 cn) rfl rfl rfl rfl HI5.out.bs HU.out hz (by simp [be4_len, atomB_len, node_size]) ?next)
        case next =>
          intro v6 w6 h6
          have HI6 := Lib.hid (HI5.out.app h6)
          clear h6 HI5 hz c0 c1 c2
          obtain ⟨c0, c1, c2⟩ := HI6.out.cells
          have hz := HI6.out.size
          clear HU
          go_wp2_with fail
          refine (four_any (cn / 4294967296) _).mono ?_
          rintro e w7 ⟨u, rfl, hu, hbe⟩
          have HI7 := Lib.hid (HI6.out.call hbe)
          have HU := Lib.hid hu.sl.rd
          clear hu hbe HI6 hz c0 c1 c2
          obtain ⟨c0, c1, c2⟩ := HI7.out.cells
          have hz := HI7.out.size
          go_wp2_with (at_builtin; refine wpList_bytes_rd (.tmp 40) (.tmp 44) (be4 (cn / 4294967296)) rfl rfl rfl rfl HI7.out.bs HU.out hz (by simp [be4_len, atomB_len, node_size]) ?next)
          case next =>
            intro v8 w8 h8
            have HI8 := Lib.hid (HI7.out.app h8)
            clear h8 HI7 hz c0 c1 c2
            obtain ⟨c0, c1, c2⟩ := HI8.out.cells
            have hz := HI8.out.size
            clear HU
            go_wp2_with fail
            go_ret
            exact ⟨_, rfl, by rw [HB.out]; have := HI8.out.bs; have e : leafB ⟨3, cn, cs⟩ = [] ++ [90, 0, 2] ++ atomB nodeS ++ [0, 0, 0, 0] ++ be4 cn ++ be4 (cn / 4294967296) := (by rw [← b8_low cn]; rfl); rw [e]; exact this, HI8.out.bel⟩

set_option maxHeartbeats 3200000 in
set_option maxRecDepth 100000 in
theorem rleaf4 (t : List Ce) (tv : Value) (hN : ∀ c ∈ t, c.i64) (c : Ce) (hw : (T.leaf c).wf) (hk : c.kind = 4) : RT t tv (.leaf c) := by
  intro w at' r hR hd
  obtain ⟨ao, cap, rfl, hcap, hmax⟩ := hR.shape
  unfold maxLen at hmax
  have hmem := drop_fst hd
  have hlt := (List.getElem?_eq_some_iff.1 hmem).1
  have hlz : (at' : Int) < (t.length : Int) := by omega
  obtain ⟨hn1, hn2⟩ := hN _ (List.mem_of_getElem? hmem)
  obtain ⟨g0, off, cap', hv, hq1, hq2, hq3⟩ := hR.at (by omega)
  clear hq1 hq2 hq3
  simp at hv
  obtain ⟨rfl, rfl⟩ := hv
  obtain ⟨d0, d1, d2⟩ := rd_cell hR rfl hmem
  have HI0 := Lib.hid (RtI.start w (T.leaf c).fst)
  rw [show (T.leaf c).fst = c from rfl] at d0 d1 d2 HI0 hn1 hn2
  have HZ := Lib.hid (cell_zero hw.1)
  have HB := Lib.hid (enc_leaf c)
  clear hmem hd hR hw hN
  obtain ⟨ck, cn, cs⟩ := c
  simp only at d0 d1 d2 hk hn1 hn2
  subst hk
  obtain ⟨c0, c1, c2⟩ := HI0.out.cells
  have hz := HI0.out.size
  go_enter Tryd.func38, Tryd.ntmps38
  go_wp2_with (at_builtin; refine wpList_bytesAt (.tmp 48) (.tmp 49) [88] _ 1 _ (by simp) rfl rfl rfl rfl HI0.out.bs (by simp [byteCells]) rfl hz (by simp) ?next)
  case next =>
    intro v1 w1 h1
    have HI1 := Lib.hid (HI0.out.app h1)
    clear h1 HI0 hz c0 c1 c2
    obtain ⟨c0, c1, c2⟩ := HI1.out.cells
    have hz := HI1.out.size
    go_wp2_with fail
    refine (ratom_any nodeS _ (by rw [node_size]; omega)).mono ?_
    rintro e w2 ⟨u, rfl, hu, hbe⟩
    have HI2 := Lib.hid (HI1.out.call hbe)
    have HU := Lib.hid hu.sl.rd
    clear hu hbe HI1 hz c0 c1 c2
    obtain ⟨c0, c1, c2⟩ := HI2.out.cells
    have hz := HI2.out.size
    go_wp2_with (at_builtin; refine wpList_bytes_rd (.tmp 51) (.tmp 52) (atomB nodeS) rfl rfl rfl rfl HI2.out.bs HU.out hz (by simp [atomB_len, node_size]) ?next)
    case next =>
      intro v3 w3 h3
      have HI3 := Lib.hid (HI2.out.app h3)
      clear h3 HI2 hz c0 c1 c2
      obtain ⟨c0, c1, c2⟩ := HI3.out.cells
      have hz := HI3.out.size
      clear HU
      go_wp2_with fail
      refine (four_any cn _).mono ?_
      rintro e w4 ⟨u, rfl, hu, hbe⟩
      have HI4 := Lib.hid (HI3.out.call hbe)
      have HU := Lib.hid hu.sl.rd
      clear hu hbe HI3 hz c0 c1 c2
      obtain ⟨c0, c1, c2⟩ := HI4.out.cells
      have hz := HI4.out.size
      go_wp2_with (at_builtin; refine wpList_bytes_rd (.tmp 54) (.tmp 57) (be4 cn) rfl rfl rfl rfl HI4.out.bs HU.out hz (by simp [be4_len, atomB_len, node_size]) ?next)
      case next =>
        intro v5 w5 h5
        have HI5 := Lib.hid (HI4.out.app h5)
        clear h5 HI4 hz c0 c1 c2
        obtain ⟨c0, c1, c2⟩ := HI5.out.cells
        have hz := HI5.out.size
        clear HU
        go_wp2_with fail
        refine (four_any (cn / 4294967296) _).mono ?_
        rintro e w6 ⟨u, rfl, hu, hbe⟩
        have HI6 := Lib.hid (HI5.out.call hbe)
        have HU := Lib.hid hu.sl.rd
        clear hu hbe HI5 hz c0 c1 c2
        obtain ⟨c0, c1, c2⟩ := HI6.out.cells
        have hz := HI6.out.size
        go_wp2_with (at_builtin; refine wpList_bytes_rd (.tmp 59) (.tmp 63) (be4 (cn / 4294967296)) rfl rfl rfl rfl HI6.out.bs HU.out hz (by simp [be4_len, atomB_len, node_size]) ?next)
        case next =>
          intro v7 w7 h7
          have HI7 := Lib.hid (HI6.out.app h7)
          clear h7 HI6 hz c0 c1 c2
          obtain ⟨c0, c1, c2⟩ := HI7.out.cells
          have hz := HI7.out.size
          clear HU
          go_wp2_with (at_builtin; refine wpList_bytesAt (.tmp 65) (.tmp 66) [0, 0, 0, 0] _ 4 _ (by simp) rfl rfl rfl rfl HI7.out.bs (by simp [byteCells]) rfl hz (by simp [be4_len, atomB_len, node_size]) ?next)
          case next =>
            intro v8 w8 h8
            have HI8 := Lib.hid (HI7.out.app h8)
            clear h8 HI7 hz c0 c1 c2
            obtain ⟨c0, c1, c2⟩ := HI8.out.cells
            have hz := HI8.out.size
            go_wp2_with fail
            go_ret
            exact ⟨_, rfl, by rw [HB.out]; have := HI8.out.bs; have e : leafB ⟨4, cn, cs⟩ = [] ++ [88] ++ atomB nodeS ++ be4 cn ++ be4 (cn / 4294967296) ++ [0, 0, 0, 0] := (by rw [← b8_low cn]; rfl); rw [e]; exact this, HI8.out.bel⟩

set_option maxHeartbeats 3200000 in
set_option maxRecDepth 100000 in
theorem rleaf6 (t : List Ce) (tv : Value) (hN : ∀ c ∈ t, c.i64) (c : Ce) (hw : (T.leaf c).wf) (hk : c.kind = 6) : RT t tv (.leaf c) := by
  intro w at' r hR hd
  obtain ⟨ao, cap, rfl, hcap, hmax⟩ := hR.shape
  unfold maxLen at hmax
  have hmem := drop_fst hd
  have hlt := (List.getElem?_eq_some_iff.1 hmem).1
  have hlz : (at' : Int) < (t.length : Int) := by omega
  obtain ⟨hn1, hn2⟩ := hN _ (List.mem_of_getElem? hmem)
  obtain ⟨g0, off, cap', hv, hq1, hq2, hq3⟩ := hR.at (by omega)
  clear hq1 hq2 hq3
  simp at hv
  obtain ⟨rfl, rfl⟩ := hv
  obtain ⟨d0, d1, d2⟩ := rd_cell hR rfl hmem
  have HI0 := Lib.hid (RtI.start w (T.leaf c).fst)
  rw [show (T.leaf c).fst = c from rfl] at d0 d1 d2 HI0 hn1 hn2
  have HZ := Lib.hid (cell_zero hw.1)
  have HB := Lib.hid (enc_leaf c)
  clear hmem hd hR hw hN
  obtain ⟨ck, cn, cs⟩ := c
  simp only at d0 d1 d2 hk hn1 hn2
  subst hk
  obtain ⟨c0, c1, c2⟩ := HI0.out.cells
  have hz := HI0.out.size
  go_enter Tryd.func38, Tryd.ntmps38
  go_wp2_with fail
  go_ret
  have h := Bs.new (w.alloc (.cells #[.int .i64 6, .int .i64 cn, .string cs] 60)) [.int .u8 106] [106] 1 rfl rfl (by omega)
  rw [show (w.alloc (.cells #[.int .i64 6, .int .i64 cn, .string cs] 60)).heap.size = w.heap.size + 1 by simp] at h
  have e : leafB ⟨6, cn, cs⟩ = [106] := rfl
  exact ⟨_, rfl, by rw [HB.out, e]; exact ⟨h.sl, fun k hk => by have := h.own k hk; omega⟩, HI0.out.bel.alloc hz _⟩

set_option maxHeartbeats 3200000 in
set_option maxRecDepth 100000 in
theorem rleaf8 (t : List Ce) (tv : Value) (hN : ∀ c ∈ t, c.i64) (c : Ce) (hw : (T.leaf c).wf) (hk : c.kind = 8) : RT t tv (.leaf c) := by
  intro w at' r hR hd
  obtain ⟨ao, cap, rfl, hcap, hmax⟩ := hR.shape
  unfold maxLen at hmax
  have hmem := drop_fst hd
  have hlt := (List.getElem?_eq_some_iff.1 hmem).1
  have hlz : (at' : Int) < (t.length : Int) := by omega
  obtain ⟨hn1, hn2⟩ := hN _ (List.mem_of_getElem? hmem)
  obtain ⟨g0, off, cap', hv, hq1, hq2, hq3⟩ := hR.at (by omega)
  clear hq1 hq2 hq3
  simp at hv
  obtain ⟨rfl, rfl⟩ := hv
  obtain ⟨d0, d1, d2⟩ := rd_cell hR rfl hmem
  have HI0 := Lib.hid (RtI.start w (T.leaf c).fst)
  rw [show (T.leaf c).fst = c from rfl] at d0 d1 d2 HI0 hn1 hn2
  have HZ := Lib.hid (cell_zero hw.1)
  have HB := Lib.hid (enc_leaf c)
  clear hmem hd hR hw hN
  obtain ⟨ck, cn, cs⟩ := c
  simp only at d0 d1 d2 hk hn1 hn2
  subst hk
  obtain ⟨c0, c1, c2⟩ := HI0.out.cells
  have hz := HI0.out.size
  have hsz : cs.size ≤ 1024 := by have := HZ.out.2.2.2.2.2.2.2.2 rfl; simp only at this; omega
  go_enter Tryd.func38, Tryd.ntmps38
  go_wp2_with (at_builtin; refine wpList_bytesAt (.tmp 78) (.tmp 79) [109] _ 1 _ (by simp) rfl rfl rfl rfl HI0.out.bs (by simp [byteCells]) rfl hz (by simp) ?next)
  case next =>
    intro v1 w1 h1
    have HI1 := Lib.hid (HI0.out.app h1)
    clear h1 HI0 hz c0 c1 c2
    obtain ⟨c0, c1, c2⟩ := HI1.out.cells
    have hz := HI1.out.size
    go_wp2_with fail
    refine (four_any (cs.size : Int) _).mono ?_
    rintro e w2 ⟨u, rfl, hu, hbe⟩
    have HI2 := Lib.hid (HI1.out.call hbe)
    have HU := Lib.hid hu.sl.rd
    clear hu hbe HI1 hz c0 c1 c2
    obtain ⟨c0, c1, c2⟩ := HI2.out.cells
    have hz := HI2.out.size
    go_wp2_with (at_builtin; refine wpList_bytes_rd (.tmp 81) (.tmp 85) (be4 (cs.size : Int)) rfl rfl rfl rfl HI2.out.bs HU.out hz (by simp [be4_len]) ?next)
    case next =>
      intro v3 w3 h3
      have HI3 := Lib.hid (HI2.out.app h3)
      clear h3 HI2 hz c0 c1 c2
      obtain ⟨c0, c1, c2⟩ := HI3.out.cells
      have hz := HI3.out.size
      clear HU
      obtain ⟨capx, wx, hcv, hrdx, hbex⟩ := conv_str w3 cs (by unfold maxLen; omega)
      have hl : cs.data.toList.length = cs.size := by simp
      rw [hl] at hrdx
      have HIX := Lib.hid (HI3.out.call hbex)
      have HU := Lib.hid hrdx
      obtain ⟨kx, hkx⟩ : ∃ kx, w3.heap.size = kx := ⟨_, rfl⟩
      rw [hkx] at hcv HU
      have hzx := HIX.out.size
      clear hrdx hbex
      go_wp2_with (at_builtin; refine wpList_bytes_rd (.tmp 87) (.tmp 90) cs.data.toList rfl rfl rfl rfl HIX.out.bs (by rw [hl]; exact HU.out) hzx (by simp [be4_len]; omega) ?next)
      case next =>
        intro v9 w9 h9
        have HI9 := Lib.hid (HIX.out.app h9)
        clear h9 HU HIX hzx
        go_wp2_with fail
        go_ret
        exact ⟨_, rfl, by rw [HB.out]; have := HI9.out.bs; simpa [leafB, List.append_assoc] using this, HI9.out.bel⟩

theorem rleaf_any (t : List Ce) (tv : Value) (hN : ∀ c ∈ t, c.i64) (c : Ce) (hw : (T.leaf c).wf) : RT t tv (.leaf c) := by
  obtain ⟨k1, k8, _⟩ := cell_zero hw.1
  have h5 := hw.2.1
  have h7 := hw.2.2
  rcases (show c.kind = 1 ∨ c.kind = 2 ∨ c.kind = 3 ∨ c.kind = 4 ∨ c.kind = 6 ∨ c.kind = 8 by omega) with h | h | h | h | h | h
  · exact rleaf1 t tv hN c hw h
  · exact rleaf2 t tv hN c hw h
  · exact rleaf3 t tv hN c hw h
  · exact rleaf4 t tv hN c hw h
  · exact rleaf6 t tv hN c hw h
  · exact rleaf8 t tv hN c hw h
end Go.Proofs.YtkhjdcnlpablkaaDoor

/-! The document's term and list: a tuple, a list; all terms. -/
namespace Go.Proofs.YtkhjdcnlpablkaaDoor
open Go.RowKit
open Go.Lib (byteCells)

set_option maxHeartbeats 3200000 in
set_option maxRecDepth 100000 in
theorem rtup (t : List Ce) (tv : Value) (hlen : t.length ≤ 1024) (c : Ce) (ks : List T) (hw : (T.tup c ks).wf) (ih : ∀ y ∈ ks, RT t tv y) : RT t tv (.tup c ks) := by
  intro w at' r hR hd
  have hkn := hw.2.2.1
  have hk5 := hw.2.1
  have hks := hw.2.2.2
  obtain ⟨ao, cap, rfl, hcap, hmax⟩ := hR.shape
  unfold maxLen at hmax
  have hmem := drop_fst hd
  have hlt := (List.getElem?_eq_some_iff.1 hmem).1
  have hlz : (at' : Int) < (t.length : Int) := by omega
  have hal : at' + 1 + T.szL ks ≤ t.length := by
    have := congrArg List.length hd
    rw [List.length_drop, List.length_append] at this
    have h1 := sz_tup c ks
    unfold T.sz at h1
    omega
  obtain ⟨g0, off, cap', hv, hq1, hq2, hq3⟩ := hR.at (by omega)
  clear hq1 hq2 hq3
  simp at hv
  obtain ⟨rfl, rfl⟩ := hv
  obtain ⟨d0, d1, d2⟩ := rd_cell hR rfl hmem
  have hdk : t.drop (at' + 1) = T.cellsL ks ++ r := by
    have := drop_next (m := 1) (a := [c]) (r := T.cellsL ks ++ r) (by rw [hd]; simp [T.cells]) rfl
    exact this
  have HI0 := Lib.hid (RtI.start w (T.tup c ks).fst)
  rw [show (T.tup c ks).fst = c from rfl] at d0 d1 d2 HI0
  have HZ := Lib.hid (cell_zero hw.1)
  have hn255 : ks.length ≤ 255 := by have := HZ.out.2.2.2.2.2.2.1 hk5; omega
  have HB := Lib.hid (enc_tup c ks)
  have hbL := encL_len hks
  have HR := Lib.hid hR
  have HIH := Lib.hid ih
  have HKS := Lib.hid hks
  have HDK := Lib.hid hdk
  clear hmem hd hR hw ih hks hdk
  obtain ⟨ck, cn, cs⟩ := c
  simp only at d0 d1 d2 hk5 hkn
  subst hk5 hkn
  obtain ⟨c0, c1, c2⟩ := HI0.out.cells
  have hz := HI0.out.size
  simp only at c0 c1 c2 hz
  go_enter Tryd.func38, Tryd.ntmps38
  go_wp2_with (at_builtin; refine wpList_bytesAt (.tmp 92) (.tmp 96) [104, b8 (ks.length : Int)] _ 2 _ (by simp) rfl rfl rfl rfl HI0.out.bs (by simp [byteCells, b8_val]; omega) rfl hz (by simp) ?next)
  case next =>
    intro v1 w1 h1
    have HI1 := Lib.hid (HI0.out.app h1)
    clear h1 HI0 hz c0 c1 c2
    obtain ⟨c0, c1, c2⟩ := HI1.out.cells
    have hz := HI1.out.size
    go_wp2_with fail
    clear c0 c1 c2 hz d0 d1 d2
    go_loopg [1, 6, 7] ks.length (fun g s1 s6 s7 wr => ∃ (q : Nat) (pre rest : List T), s1 = .int .i64 q ∧ s7 = .int .i64 pre.length ∧ pre.length + g = ks.length ∧ q + T.szL rest ≤ t.length ∧ T.szL pre + T.szL rest = T.szL ks ∧ RtI w wr s6 ([] ++ [104, b8 (ks.length : Int)] ++ T.encL pre) ⟨5, ks.length, cs⟩ ∧ Hid (ks = pre ++ rest ∧ t.drop q = T.cellsL rest ++ r))
    case atStart => exact ⟨at' + 1, [], ks, by go_num, rfl, by simp, by omega, by simp [szL_nil], by rw [encL_nil, List.append_nil]; exact HI1.out, Lib.hid ⟨rfl, HDK.out⟩⟩
    case round =>
      clear HI1
      obtain ⟨q, pre, rest, rfl, rfl, hg, hq, hszs, hi, hI⟩ := hrel
      obtain ⟨hI1, hI2⟩ := hI.out
      obtain ⟨c0, c1, c2⟩ := hi.cells
      simp only at c0 c1 c2
      have hz := hi.size
      cases rest with
      | nil =>
        have hpl : pre.length = ks.length := by rw [hI1]; simp
        have HI := Lib.hid hi
        have HE : Hid (T.encL ks = T.encL pre) := Lib.hid (by rw [hI1, List.append_nil])
        rw [hpl] at *
        clear hI hI1 hI2 hi hg hq hszs
        go_wp2_with fail
        go_ret
        exact ⟨_, rfl, by rw [HB.out, HE.out]; exact HI.out.bs, HI.out.bel⟩
      | cons y ys =>
        have hpl : pre.length < ks.length := by rw [hI1]; simp
        have hplz : (pre.length : Int) < (ks.length : Int) := by omega
        have hwy := (wfL_app pre (y :: ys)).1 (by rw [← hI1]; exact HKS.out)
        have hyw : y.wf := hwy.2.1
        rw [szL_cons] at hq hszs
        have hyp := sz_pos y
        have hdy : t.drop q = y.cells ++ (T.cellsL ys ++ r) := by rw [hI2]; simp [T.cellsL]
        have hdn : t.drop (q + y.sz) = T.cellsL ys ++ r := drop_next hdy rfl
        have he := end_term hyw hdy
        have H38 := Lib.hid (HIH.out y (by rw [hI1]; simp) wr q _ (HR.out.below (Nat.le_refl _) hi.bel) hdy)
        have HY := Lib.hid (enc_len hyw).1
        have HP : Hid ((T.encL pre).length ≤ 1040 * T.szL pre) := Lib.hid (encL_len hwy.1)
        have H75 : Hid (∀ W, Below w.heap.size w W → Calls Tryd.prog 75 #[.slice (some ⟨g0, off, none⟩) t.length cap, .int .i64 q] W fun e w' => e = .returned (.tuple #[.int .i64 ((q + y.sz : Nat) : Int), .int .i64 0]) ∧ Below W.heap.size W w') := Lib.hid (fun W hW => by
          have := rend_t t (.slice (some ⟨g0, off, none⟩) t.length cap) q hlen W (HR.out.below (Nat.le_refl _) hW)
          rw [he] at this
          exact this)
        have HI := Lib.hid hi
        have HNX : Hid (ks = (pre ++ [y]) ++ ys ∧ t.drop (q + y.sz) = T.cellsL ys ++ r) := Lib.hid ⟨by rw [hI1]; simp, hdn⟩
        have HQ := Lib.hid (⟨hq, hszs, hg⟩ : q + (y.sz + T.szL ys) ≤ t.length ∧ T.szL pre + (y.sz + T.szL ys) = T.szL ks ∧ pre.length + gk = ks.length)
        clear hI hI1 hI2 hi hg hq hszs hwy hyw hdy hdn he
        go_wp2_with fail
        refine (H38.out).mono ?_
        rintro e w2 ⟨u, rfl, hu, hbe⟩
        have HI2 := Lib.hid (HI.out.call hbe)
        have HU := Lib.hid hu.sl.rd
        clear hu hbe HI hz c0 c1 c2 H38
        obtain ⟨c0, c1, c2⟩ := HI2.out.cells
        simp only at c0 c1 c2
        have hz := HI2.out.size
        go_wp2_with (at_builtin; refine wpList_bytes_rd (.tmp 106) (.tmp 109) y.enc rfl rfl rfl rfl HI2.out.bs HU.out hz (by have h1 := HY.out; have h2 := HP.out; have h3 := HQ.out; simp; omega) ?next2)
        case next2 =>
          intro v3 w3 h3
          have HI3 := Lib.hid (HI2.out.app h3)
          clear h3 HI2 hz c0 c1 c2 HU
          have H75b := Lib.hid (H75.out w3 HI3.out.bel)
          go_wp2_with fail
          refine (H75b.out).mono ?_
          rintro e w4 ⟨rfl, hbe4⟩
          have HI4 := Lib.hid (HI3.out.call hbe4)
          clear hbe4 HI3 H75 H75b
          go_wp2_with fail
          go_roundg (gk - 1)
          case measure => have := HQ.out; omega
          case rel => exact ⟨q + y.sz, pre ++ [y], ys, rfl, by first | go_num | (congr 1; simp), by have := HQ.out; simp; omega, by have := HQ.out; omega, by have := HQ.out; unfold T.szL at *; rw [cellsL_app]; simp [T.cellsL, T.sz] at *; omega, by
            have := HI4.out
            rw [encL_app, encL_cons, encL_nil, List.append_nil, ← List.append_assoc]
            exact this, HNX⟩
def RL (t : List Ce) (tv : Value) (a : T) : Prop := ∀ (w : World) (at' : Nat) (r : List Ce), Rd w 3 tv t.length (cvs t) → t.drop at' = a.cells ++ r → Calls Tryd.prog 74 #[tv, .int .i64 at'] w (NewB w a.enc)

theorem runT_nil {x : T} (h : runLen x = 0) : x.encT = x.enc ∧ spLen x = 0 ∧ charB x = [] := by
  cases x with
  | leaf c => exact ⟨encT_leaf c, rfl, rfl⟩
  | tup c ks => exact ⟨encT_tup c ks, rfl, rfl⟩
  | cons h y => simp [runLen] at h

/-- Bytes that grow beside a list of places. -/
structure LpI (w wi : World) (v : Value) (xs : List UInt8) (pv : Value) (n : Nat) (zs : List Nat) : Prop where
  bs : Bs w.heap.size wi v xs
  sl : Sl wi 3 1 pv n (nats zs)
  bel : Below w.heap.size w wi
section
variable {w wi wj : World} {v v' pv : Value} {xs ys : List UInt8} {n : Nat} {zs : List Nat}
theorem Sl.calls {e size : Nat} {cs : List Value} (h : Sl wi e size pv n cs) (hb : Below wi.heap.size wi wj) : Sl wj e size pv n cs := h.keep fun q hq => hb.block q (h.lt q hq)
theorem LpI.call (h : LpI w wi v xs pv n zs) (hb : Below wi.heap.size wi wj) : LpI w wj v xs pv n zs := ⟨h.bs.below hb, h.sl.calls hb, h.bel.trans (hb.mono h.bel.size)⟩
theorem LpI.app (h : LpI w wi v xs pv n zs) (k : Wr w.heap.size wi v wj v' ys) : LpI w wj v' ys pv n zs := ⟨k.bs, k.fr.sl h.sl (fun q hq hv => by
  obtain ⟨c, hc⟩ := h.sl.cells q hq
  exact h.bs.sl.ne hc (by decide) _ hv rfl), h.bel.trans k.bel⟩
end

set_option maxHeartbeats 3200000 in
set_option maxRecDepth 100000 in
/-- A list of bytes. -/
theorem rlist_chars (t : List Ce) (tv : Value) (hlen : t.length ≤ 1024) (a : T) (hw : a.wf) (hch : charsOk a = true) (hb : a.enc = [107] ++ be2 (runLen a) ++ charB a) : RL t tv a := by
  intro w at' r hR hd
  have hrl := (run_le a).1
  have hal : at' + a.sz ≤ t.length := by
    have := congrArg List.length hd
    rw [List.length_drop, List.length_append] at this
    have h1 := sz_pos a
    unfold T.sz at *
    omega
  obtain ⟨ao, cap, rfl, hcap, hmax⟩ := hR.shape
  unfold maxLen at hmax
  have HR := Lib.hid hR
  have HD := Lib.hid hd
  have HW := Lib.hid hw
  have H83 := Lib.hid (rrun_any t _ hlen at' a r hw hd w hR)
  have H84 : Hid (∀ (W : World) (pv : Value), Below w.heap.size w W → Rd W 1 pv (runLen a) (nats (plcs a at')) → Calls Tryd.prog 84 #[.slice ao t.length cap, pv, .int .i64 ((at' + spLen a : Nat) : Int)] W fun e w' => e = .returned (.bool true) ∧ Below W.heap.size W w') := Lib.hid (fun W pv hW hp => by
    have := short_any t (.slice ao t.length cap) pv hlen at' a r hw hd W (hR.below (Nat.le_refl _) hW) hp
    rw [hch] at this
    exact this)
  have hab : allB a = true := by
    unfold charsOk at hch
    simp only [Bool.and_eq_true, decide_eq_true_eq] at hch
    exact hch.1.1
  have HAB := Lib.hid hab
  have HB := Lib.hid hb
  have HPL := Lib.hid (plcs_len a at')
  have hN : runLen a ≤ 1024 := by omega
  obtain ⟨n, hn⟩ : ∃ n, runLen a = n := ⟨_, rfl⟩
  rw [hn] at hN HPL H83 H84 HB hrl
  have HRN := Lib.hid hn
  obtain ⟨tk, htk⟩ : ∃ tk, at' + spLen a = tk := ⟨_, rfl⟩
  rw [htk] at H83 H84
  clear hR hd hw hch hb hab hn htk
  go_enter Tryd.func74, Tryd.ntmps74
  go_wp2_with fail
  refine (H83.out).mono ?_
  rintro e w1 ⟨pv, rfl, hps, hbe1⟩
  have HPS := Lib.hid hps
  have HBE1 := Lib.hid hbe1
  have H84b := Lib.hid (H84.out w1 pv hbe1 hps.rd)
  obtain ⟨aop, capp, rfl, hcp, hmp⟩ := hps.shape
  unfold maxLen at hmp
  clear hps hbe1 H83 H84
  go_wp2_with fail
  refine (H84b.out).mono ?_
  rintro e w2 ⟨rfl, hbe2⟩
  have hbe02 := HBE1.out.trans (hbe2.mono HBE1.out.size)
  have HL3 : Hid (LpI w (w2.alloc (.cells #[.int .u8 107] 5)) (.slice (some ⟨w2.heap.size, 0, none⟩) 1 1) [107] (.slice aop n capp) n (plcs a at')) := Lib.hid (by
    have := Bs.new w2 [.int .u8 107] [107] 1 rfl rfl (by omega)
    exact ⟨⟨this.sl, fun k hk => by have h1 := this.own k hk; have h2 := hbe02.size; omega⟩, (HPS.out.calls hbe2).alloc _, hbe02.alloc hbe02.size _⟩)
  have H85 := Lib.hid (two_any (n : Int) (w2.alloc (.cells #[.int .u8 107] 5)))
  clear hbe2 hbe02 HPS HBE1 H84b
  go_wp2_with fail
  refine (H85.out).mono ?_
  rintro e w4 ⟨u, rfl, hu, hbe4⟩
  have HL4 := Lib.hid (HL3.out.call hbe4)
  have HU := Lib.hid hu.sl.rd
  have hz := HL4.out.bel.size
  clear hu hbe4 HL3 H85
  go_wp2_with (at_builtin; refine wpList_bytes_rd (.tmp 24) (.tmp 27) (be2 n) rfl rfl rfl rfl HL4.out.bs HU.out hz (by simp [be2_len]) ?next)
  case next =>
    intro v5 w5 h5
    have HL5 := Lib.hid (HL4.out.app h5)
    clear h5 HL4 hz HU
    go_wp2_with fail
    go_loopg [7, 31] n (fun g s7 s31 wr => ∃ (k q : Nat) (x : T) (ps : List Nat) (pre : List UInt8), s31 = .int .i64 k ∧ k + g = n ∧ q + x.sz ≤ t.length ∧ pre.length = k ∧ LpI w wr s7 ([107] ++ be2 n ++ pre) (.slice aop n capp) n (plcs a at') ∧ Hid (x.wf ∧ t.drop q = x.cells ++ r ∧ runLen x = g ∧ plcs a at' = ps ++ plcs x q ∧ ps.length = k ∧ allB x = true ∧ charB a = pre ++ charB x))
    case atStart => exact ⟨0, at', a, [], [], rfl, by omega, hal, rfl, by rw [List.append_nil]; exact HL5.out, Lib.hid ⟨HW.out, HD.out, HRN.out, rfl, rfl, HAB.out, rfl⟩⟩
    case round =>
      clear HL5
      obtain ⟨k, q, x, ps, pre, rfl, hkg, hqx, hpre, hli, hI⟩ := hrel
      obtain ⟨hxw, hxd, hx1, hx2, hx3, hx4, hx5⟩ := hI.out
      have HLI := Lib.hid hli
      have hz := hli.bel.size
      cases gk with
      | zero =>
        obtain rfl : k = n := by omega
        have HE : Hid (a.enc = [107] ++ be2 k ++ pre) := Lib.hid (by rw [HB.out, hx5, (runT_nil hx1).2.2, List.append_nil])
        clear hI hxw hxd hx1 hx2 hx3 hx4 hx5 hli hqx hpre
        go_wp2_with fail
        go_ret
        exact ⟨_, rfl, by rw [HE.out]; exact HLI.out.bs, HLI.out.bel⟩
      | succ g =>
        cases x with
        | leaf c => simp [runLen] at hx1
        | tup c ks => simp [runLen] at hx1
        | cons h y =>
          have hdh : t.drop (q + 1) = h.cells ++ (y.cells ++ r) := by
            have := drop_next (m := 1) (a := [consC]) (r := h.cells ++ (y.cells ++ r)) (by rw [hxd]; simp [T.cells]) rfl
            exact this
          have hdy : t.drop (q + 1 + h.sz) = y.cells ++ r := drop_next hdh rfl
          have hsz := sz_cons h y
          have hp1 := sz_pos h
          have hp2 := sz_pos y
          have hrd := HR.out.below (Nat.le_refl _) hli.bel
          obtain ⟨gt, ot, capt, hvt, _, _, _⟩ := hrd.at (by omega)
          simp at hvt
          obtain ⟨rfl, rfl⟩ := hvt
          obtain ⟨d0, d1, d2⟩ := rd_cell hrd rfl (drop_fst hdh)
          obtain ⟨gp, op, capq, hvp, hq1, hq2, hq3⟩ := hli.sl.rd.at (by omega)
          simp at hvp
          obtain ⟨rfl, rfl⟩ := hvp
          have e0 := hq3 k (by omega)
          rw [nats_at (k := q + 1) (by rw [hx2, List.getElem?_append_right (by omega), hx3, Nat.sub_self]; rfl)] at e0
          have hby : isByte h = true ∧ allB y = true := by simpa [allB] using hx4
          obtain ⟨c, rfl⟩ : ∃ c, h = .leaf c := by
            cases h with
            | leaf c => exact ⟨c, rfl⟩
            | tup c ks => simp [isByte] at hby
            | cons p q => simp [isByte] at hby
          have hIN : Hid (y.wf ∧ t.drop (q + 1 + (T.leaf c).sz) = y.cells ++ r ∧ runLen y = g ∧ plcs a at' = (ps ++ [q + 1]) ++ plcs y (q + 1 + (T.leaf c).sz) ∧ (ps ++ [q + 1]).length = k + 1 ∧ allB y = true ∧ charB a = (pre ++ [b8 c.n]) ++ charB y) := Lib.hid ⟨hxw.2, hdy, by simp only [runLen] at hx1; omega, by rw [hx2]; simp only [plcs, List.append_assoc, List.cons_append, List.nil_append], by simp [hx3], hby.2, by rw [hx5]; simp [charB]⟩
          rw [show (T.leaf c).fst = c from rfl] at d0 d1 d2
          have hqt : q + 1 < t.length := by omega
          have hqz : (q : Int) + 1 < (t.length : Int) := by omega
          have hkn : k < n := by omega
          have hkz : (k : Int) < (n : Int) := by omega
          have HSZ := Lib.hid (⟨hqx, hsz, hkg, hpre⟩ : q + (T.cons (.leaf c) y).sz ≤ t.length ∧ (T.cons (.leaf c) y).sz = 1 + (T.leaf c).sz + y.sz ∧ k + (g + 1) = n ∧ pre.length = k)
          clear hI hxw hxd hx1 hx2 hx3 hx4 hx5 hdh hdy hrd hq1 hq2 hq3 hqx hsz hby hli
          go_wp2_with (at_builtin; refine wpList_bytes (.tmp 35) (.tmp 42) [b8 c.n] _ 1 rfl rfl rfl rfl HLI.out.bs (bytes1 _) rfl hz (by simp [be2_len]; omega) ?next)
          case next =>
            intro v6 w6 h6
            have HL6 := Lib.hid (HLI.out.app h6)
            clear h6 HLI hz e0 d0 d1 d2
            go_wp2_with fail
            go_roundg g
            case measure => omega
            case rel => exact ⟨k + 1, q + 1 + (T.leaf c).sz, y, ps ++ [q + 1], pre ++ [b8 c.n], by go_num, by have := HSZ.out; omega, by have := HSZ.out; omega, by have := HSZ.out; simp; omega, by rw [← List.append_assoc]; exact HL6.out, hIN⟩

set_option maxHeartbeats 3200000 in
set_option maxRecDepth 100000 in
/-- Any other list. -/
theorem rlist_long (t : List Ce) (tv : Value) (hlen : t.length ≤ 1024) (a : T) (hw : a.wf) (hpos : 1 ≤ runLen a) (hch : charsOk a = false) (hb : a.enc = [108] ++ be4 (runLen a) ++ a.encT) (ih : ∀ b : T, b.sz < a.sz → b.wf → RT t tv b) : RL t tv a := by
  intro w at' r hR hd
  have hrl := (run_le a).1
  have hal : at' + a.sz ≤ t.length := by
    have := congrArg List.length hd
    rw [List.length_drop, List.length_append] at this
    have h1 := sz_pos a
    unfold T.sz at *
    omega
  obtain ⟨ao, cap, rfl, hcap, hmax⟩ := hR.shape
  unfold maxLen at hmax
  have HR := Lib.hid hR
  have HD := Lib.hid hd
  have HW := Lib.hid hw
  have HIH := Lib.hid ih
  have HEL := Lib.hid (enc_len hw).2
  have H83 := Lib.hid (rrun_any t _ hlen at' a r hw hd w hR)
  have H84 : Hid (∀ (W : World) (pv : Value), Below w.heap.size w W → Rd W 1 pv (runLen a) (nats (plcs a at')) → Calls Tryd.prog 84 #[.slice ao t.length cap, pv, .int .i64 ((at' + spLen a : Nat) : Int)] W fun e w' => e = .returned (.bool false) ∧ Below W.heap.size W w') := Lib.hid (fun W pv hW hp => by
    have := short_any t (.slice ao t.length cap) pv hlen at' a r hw hd W (hR.below (Nat.le_refl _) hW) hp
    rw [hch] at this
    exact this)
  have HB := Lib.hid hb
  have HPL := Lib.hid (plcs_len a at')
  have hN : runLen a ≤ 1024 := by omega
  obtain ⟨n, hn⟩ : ∃ n, runLen a = n := ⟨_, rfl⟩
  rw [hn] at hN HPL H83 H84 HB hrl hpos
  have HRN := Lib.hid hn
  obtain ⟨tk, htk⟩ : ∃ tk, at' + spLen a = tk := ⟨_, rfl⟩
  rw [htk] at H83 H84
  have HTK := Lib.hid htk
  have HAS := Lib.hid (⟨hal, hrl, hpos⟩ : at' + a.sz ≤ t.length ∧ n + 1 ≤ a.sz ∧ 1 ≤ n)
  clear hR hd hw hch hb hn htk ih
  go_enter Tryd.func74, Tryd.ntmps74
  go_wp2_with fail
  refine (H83.out).mono ?_
  rintro e w1 ⟨pv, rfl, hps, hbe1⟩
  have HPS := Lib.hid hps
  have HBE1 := Lib.hid hbe1
  have H84b := Lib.hid (H84.out w1 pv hbe1 hps.rd)
  obtain ⟨aop, capp, rfl, hcp, hmp⟩ := hps.shape
  unfold maxLen at hmp
  clear hps hbe1 H83 H84
  go_wp2_with fail
  refine (H84b.out).mono ?_
  rintro e w2 ⟨rfl, hbe2⟩
  have hbe02 := HBE1.out.trans (hbe2.mono HBE1.out.size)
  have HL3 : Hid (LpI w (w2.alloc (.cells #[.int .u8 108] 5)) (.slice (some ⟨w2.heap.size, 0, none⟩) 1 1) [108] (.slice aop n capp) n (plcs a at')) := Lib.hid (by
    have := Bs.new w2 [.int .u8 108] [108] 1 rfl rfl (by omega)
    exact ⟨⟨this.sl, fun k hk => by have h1 := this.own k hk; have h2 := hbe02.size; omega⟩, (HPS.out.calls hbe2).alloc _, hbe02.alloc hbe02.size _⟩)
  have H40 := Lib.hid (four_any (n : Int) (w2.alloc (.cells #[.int .u8 108] 5)))
  clear hbe2 hbe02 HPS HBE1 H84b
  go_wp2_with fail
  refine (H40.out).mono ?_
  rintro e w4 ⟨u, rfl, hu, hbe4⟩
  have HL4 := Lib.hid (HL3.out.call hbe4)
  have HU := Lib.hid hu.sl.rd
  have hz := HL4.out.bel.size
  clear hu hbe4 HL3 H40
  go_wp2_with (at_builtin; refine wpList_bytes_rd (.tmp 47) (.tmp 50) (be4 n) rfl rfl rfl rfl HL4.out.bs HU.out hz (by simp [be4_len]) ?next)
  case next =>
    intro v5 w5 h5
    have HL5 := Lib.hid (HL4.out.app h5)
    clear h5 HL4 hz HU
    go_wp2_with fail
    go_loopg [10, 54] n (fun g s10 s54 wr => ∃ (k q : Nat) (x : T) (ps : List Nat) (pre : List UInt8), s54 = .int .i64 k ∧ k + g = n ∧ q + x.sz ≤ t.length ∧ k + x.sz ≤ a.sz ∧ LpI w wr s10 ([108] ++ be4 n ++ pre) (.slice aop n capp) n (plcs a at') ∧ Hid (x.wf ∧ t.drop q = x.cells ++ r ∧ runLen x = g ∧ plcs a at' = ps ++ plcs x q ∧ ps.length = k ∧ q + spLen x = tk ∧ a.encT = pre ++ x.encT))
    case atStart => exact ⟨0, at', a, [], [], rfl, by omega, hal, by omega, by rw [List.append_nil]; exact HL5.out, Lib.hid ⟨HW.out, HD.out, HRN.out, rfl, rfl, HTK.out, rfl⟩⟩
    case round =>
      clear HL5
      obtain ⟨k, q, x, ps, pre, rfl, hkg, hqx, hkx, hli, hI⟩ := hrel
      obtain ⟨hxw, hxd, hx1, hx2, hx3, hx4, hx5⟩ := hI.out
      have HLI := Lib.hid hli
      have hz := hli.bel.size
      have HLN : Hid (pre.length + x.encT.length ≤ 1040 * a.sz) := Lib.hid (by
        have h1 := HEL.out
        rw [hx5, List.length_append] at h1
        exact h1)
      cases gk with
      | zero =>
        obtain rfl : k = n := by omega
        obtain ⟨hn1, hn2, _⟩ := runT_nil hx1
        obtain rfl : q = tk := by omega
        have H38 := Lib.hid (HIH.out x (by have := HAS.out; omega) hxw wr q r (HR.out.below (Nat.le_refl _) hli.bel) hxd)
        have HE : Hid (a.enc = [108] ++ be4 k ++ pre ++ x.enc) := Lib.hid (by rw [HB.out, hx5, hn1, List.append_assoc, List.append_assoc, List.append_assoc])
        rw [hn1] at HLN
        clear hI hxw hxd hx1 hx2 hx3 hx4 hx5 hli hqx hn1 hn2
        go_wp2_with fail
        refine (H38.out).mono ?_
        rintro e w6 ⟨u, rfl, hu, hbe⟩
        have HL6 := Lib.hid (HLI.out.call hbe)
        have HU := Lib.hid hu.sl.rd
        clear hu hbe HLI hz H38
        have hz := HL6.out.bel.size
        go_wp2_with (at_builtin; refine wpList_bytes_rd (.tmp 64) (.tmp 67) x.enc rfl rfl rfl rfl HL6.out.bs HU.out hz (by have h1 := HLN.out; have h2 := HAS.out; simp [be4_len]; omega) ?next2)
        case next2 =>
          intro v7 w7 h7
          have HL7 := Lib.hid (HL6.out.app h7)
          clear h7 HL6 HU
          go_wp2_with fail
          go_ret
          exact ⟨_, rfl, by rw [HE.out]; exact HL7.out.bs, HL7.out.bel⟩
      | succ g =>
        cases x with
        | leaf c => simp [runLen] at hx1
        | tup c ks => simp [runLen] at hx1
        | cons h y =>
          have hdh : t.drop (q + 1) = h.cells ++ (y.cells ++ r) := by
            have := drop_next (m := 1) (a := [consC]) (r := h.cells ++ (y.cells ++ r)) (by rw [hxd]; simp [T.cells]) rfl
            exact this
          have hdy : t.drop (q + 1 + h.sz) = y.cells ++ r := drop_next hdh rfl
          have hsz := sz_cons h y
          have hp1 := sz_pos h
          have hp2 := sz_pos y
          obtain ⟨gp, op, capq, hvp, hq1, hq2, hq3⟩ := hli.sl.rd.at (by omega)
          simp at hvp
          obtain ⟨rfl, rfl⟩ := hvp
          have e0 := hq3 k (by omega)
          rw [nats_at (k := q + 1) (by rw [hx2, List.getElem?_append_right (by omega), hx3, Nat.sub_self]; rfl)] at e0
          have H38 := Lib.hid (HIH.out h (by omega) hxw.1 wr (q + 1) _ (HR.out.below (Nat.le_refl _) hli.bel) hdh)
          have hIN : Hid (y.wf ∧ t.drop (q + 1 + h.sz) = y.cells ++ r ∧ runLen y = g ∧ plcs a at' = (ps ++ [q + 1]) ++ plcs y (q + 1 + h.sz) ∧ (ps ++ [q + 1]).length = k + 1 ∧ (q + 1 + h.sz) + spLen y = tk ∧ a.encT = (pre ++ h.enc) ++ y.encT) := Lib.hid ⟨hxw.2, hdy, by simp only [runLen] at hx1; omega, by rw [hx2]; simp only [plcs, List.append_assoc, List.cons_append, List.nil_append], by simp [hx3], by simp only [spLen] at hx4; omega, by rw [hx5, encT_cons, List.append_assoc]⟩
          rw [encT_cons, List.length_append] at HLN
          have hkn : k < n := by omega
          have hkz : (k : Int) < (n : Int) := by omega
          have HSZ := Lib.hid (⟨hqx, hsz, hkg, hkx, hp1⟩ : q + (T.cons h y).sz ≤ t.length ∧ (T.cons h y).sz = 1 + h.sz + y.sz ∧ k + (g + 1) = n ∧ k + (T.cons h y).sz ≤ a.sz ∧ 1 ≤ h.sz)
          clear hI hxw hxd hx1 hx2 hx3 hx4 hx5 hdh hdy hq1 hq2 hq3 hqx hkx hsz hli
          go_wp2_with fail
          refine (H38.out).mono ?_
          rintro e w6 ⟨u, rfl, hu, hbe⟩
          have HL6 := Lib.hid (HLI.out.call hbe)
          have HU := Lib.hid hu.sl.rd
          clear hu hbe HLI hz H38 e0
          have hz := HL6.out.bel.size
          go_wp2_with (at_builtin; refine wpList_bytes_rd (.tmp 58) (.tmp 61) h.enc rfl rfl rfl rfl HL6.out.bs HU.out hz (by have h1 := HLN.out; have h2 := HAS.out; simp [be4_len]; omega) ?next)
          case next =>
            intro v7 w7 h7
            have HL7 := Lib.hid (HL6.out.app h7)
            clear h7 HL6 HU hz
            go_wp2_with fail
            go_roundg g
            case measure => omega
            case rel => exact ⟨k + 1, q + 1 + h.sz, y, ps ++ [q + 1], pre ++ h.enc, by go_num, by have := HSZ.out; omega, by have := HSZ.out; omega, by have := HSZ.out; omega, by rw [← List.append_assoc]; exact HL7.out, hIN⟩

set_option maxRecDepth 100000 in
/-- A cons is a list. -/
theorem rcons (t : List Ce) (tv : Value) (h y : T) (hl : RL t tv (.cons h y)) : RT t tv (.cons h y) := by
  intro w at' r hR hd
  have H74 := Lib.hid (hl (w.alloc (.cells #[.int .i64 7, .int .i64 0, .string ⟨#[]⟩] 60)) at' r (hR.below (Nat.le_refl _) ((Below.refl _ w).alloc (Nat.le_refl _) _)) hd)
  obtain ⟨ao, cap, rfl, hcap, hmax⟩ := hR.shape
  unfold maxLen at hmax
  have hmem := drop_fst hd
  have hlt := (List.getElem?_eq_some_iff.1 hmem).1
  have hlz : (at' : Int) < (t.length : Int) := by omega
  obtain ⟨g0, off, cap', hv, hq1, hq2, hq3⟩ := hR.at (by omega)
  clear hq1 hq2 hq3
  simp at hv
  obtain ⟨rfl, rfl⟩ := hv
  obtain ⟨d0, d1, d2⟩ := rd_cell hR rfl hmem
  have HI0 := Lib.hid (RtI.start w consC)
  have e0 : w.cell? ⟨g0, off + at' * 3, none⟩ = some (.int .i64 7) := d0
  have e1 : w.cell? ⟨g0, off + at' * 3 + 1, none⟩ = some (.int .i64 0) := d1
  have e2 : w.cell? ⟨g0, off + at' * 3 + 2, none⟩ = some (.string ⟨#[]⟩) := d2
  obtain ⟨c0, c1, c2⟩ := HI0.out.cells
  have c0' : (w.alloc (.cells #[.int .i64 7, .int .i64 0, .string ⟨#[]⟩] 60)).cell? ⟨w.heap.size, 0, none⟩ = some (.int .i64 7) := c0
  have hz := HI0.out.size
  clear hmem hd hR hl d0 d1 d2 c0 c1 c2
  go_enter Tryd.func38, Tryd.ntmps38
  go_wp2_with fail
  refine (H74.out).mono ?_
  rintro e w1 ⟨u, rfl, hu, hbe⟩
  have HU := Lib.hid hu
  have HBE := Lib.hid (HI0.out.bel.trans (hbe.mono hz))
  have HZ := Lib.hid hz
  clear hu hbe hz
  go_wp2_with fail
  go_ret
  exact ⟨_, rfl, ⟨HU.out.sl, fun k hk => by have h1 := HU.out.own k hk; have h2 := HZ.out; exact Nat.le_trans h2 h1⟩, HBE.out⟩

theorem rterm_all (t : List Ce) (tv : Value) (hlen : t.length ≤ 1024) (hN : ∀ c ∈ t, c.i64) : ∀ (n : Nat) (a : T), a.sz ≤ n → a.wf → RT t tv a
  | 0, a, h, _ => by have := sz_pos a; omega
  | n + 1, .leaf c, _, hw => rleaf_any t tv hN c hw
  | n + 1, .tup c ks, h, hw => rtup t tv hlen c ks hw fun y hy => by
    rw [sz_tup] at h
    have hle : ∀ (l : List T), y ∈ l → y.sz ≤ T.szL l := by
      intro l hl
      induction l with
      | nil => simp at hl
      | cons x xs ihx =>
        rw [szL_cons]
        rcases List.mem_cons.1 hl with rfl | hl
        · omega
        · have := ihx hl; omega
    have := hle ks hy
    exact rterm_all t tv hlen hN n y (by omega) (wfL_mem hw.2.2.2 y hy)
  | n + 1, .cons x y, h, hw => rcons t tv x y (by
    have he := enc_cons x y
    by_cases hch : charsOk (.cons x y) = true
    · rw [if_pos hch] at he
      exact rlist_chars t tv hlen _ hw hch he
    · rw [if_neg hch, ← encT_cons] at he
      exact rlist_long t tv hlen _ hw (by simp [runLen]) (by simpa using hch) he fun b hb hbw => rterm_all t tv hlen hN n b (by omega) hbw)
end Go.Proofs.YtkhjdcnlpablkaaDoor

/-! The document's Encode. Lent, Kept: cells with a mark behind them. -/
namespace Go.Proofs.YtkhjdcnlpablkaaDoor
open Go.RowKit
open Go.Lib (byteCells)

set_option maxHeartbeats 1600000 in
set_option maxRecDepth 100000 in
theorem REncode_any (t : List Ce) (tv : Value) (hk : OkCes t) (w : World) (hrd : Rd w 3 tv t.length (cvs t)) :
    Calls Tryd.prog 21 #[tv] w fun e w' => ∃ v', e = .returned (.tuple #[v', .int .i64 (rightT t).1]) ∧ Bs w.heap.size w' v' (encV t) ∧ Below w.heap.size w w' := by
  have HR := Lib.hid (rright_t t tv hk.txt w hrd)
  have HRD := Lib.hid hrd
  obtain ⟨ao, cap, rfl, hcap, hmax⟩ := hrd.shape
  clear hrd
  by_cases h0 : (rightT t).1 = 0
  · have hr := right_zero h0
    obtain ⟨h1, h2, h3⟩ := termOf_ok hr
    have HE := Lib.hid (encV_ok hr)
    have HA := Lib.hid (rterm_all t (.slice ao t.length cap) h3 hk.num _ (termOf t) (Nat.le_refl _) h2)
    have HD : Hid (t.drop 0 = (termOf t).cells ++ []) := Lib.hid (by rw [h1]; simp)
    have HL : Hid ((termOf t).enc.length ≤ 1064960) := Lib.hid (by
      have := (enc_len h2).1
      have hs : (termOf t).sz ≤ 1024 := by unfold T.sz; rw [h1]; exact h3
      omega)
    have H0 := Lib.hid hr
    clear h0 hr h1 h2 h3 hk
    go_enter Tryd.func21, Tryd.ntmps21
    go_wp2_with fail
    refine (HR.out).mono ?_
    rintro e w1 ⟨rfl, hb1⟩
    rw [H0.out]
    have hz1 := hb1.size
    have hbs : Bs w.heap.size (w1.alloc (.cells #[.int .u8 131] 5)) (.slice (some ⟨w1.heap.size, 0, none⟩) 1 1) [131] :=
      ⟨Sl.new w1 5 [.int .u8 131] 1 rfl (by unfold maxLen; omega), fun k hk => by simp [Value.ownBlock] at hk; omega⟩
    have HBS := Lib.hid hbs
    have HB1 := Lib.hid (hb1.alloc hz1 (.cells #[.int .u8 131] 5))
    have H38 := Lib.hid (HA.out (w1.alloc (.cells #[.int .u8 131] 5)) 0 [] (HRD.out.below (Nat.le_refl _) HB1.out) HD.out)
    clear hb1 hbs hz1 HR
    go_wp2_with fail
    refine (H38.out).mono ?_
    rintro e w2 ⟨u, rfl, hu, hbe⟩
    have HBS2 := Lib.hid (HBS.out.below hbe)
    have HB2 := Lib.hid (HB1.out.trans (hbe.mono HB1.out.size))
    have HU := Lib.hid hu.sl.rd
    have hz := HB2.out.size
    clear hu hbe HBS HB1 H38
    go_wp2_with (at_builtin; refine wpList_bytes_rd (.tmp 16) (.tmp 18) (termOf t).enc rfl rfl rfl rfl HBS2.out HU.out hz (by have := HL.out; simp; omega) ?next)
    case next =>
      intro v3 w3 h3
      have H3 := Lib.hid h3
      clear h3 HU HBS2
      go_wp2_with fail
      go_ret2
      exact ⟨_, by rw [H0.out]; rfl, by rw [HE.out]; exact H3.out.bs, HB2.out.trans H3.out.bel⟩
  · have HE := Lib.hid (encV_bad h0)
    obtain ⟨e0, he0⟩ : ∃ e, (rightT t).1 = e := ⟨_, rfl⟩
    obtain ⟨e1, he1⟩ : ∃ e, (rightT t).2 = e := ⟨_, rfl⟩
    rw [he0] at h0 HR
    rw [he1] at HR
    rw [he0]
    have q1 : ((e0 : Int) == 0) = false := by simp; omega
    have q2 : ((e0 : Int) != 0) = true := by simp; omega
    clear h0 hk he0 he1
    go_enter Tryd.func21, Tryd.ntmps21
    go_wp2_with fail
    refine (HR.out).mono ?_
    rintro e w1 ⟨rfl, hb1⟩
    have HB1 := Lib.hid hb1
    clear hb1
    go_wp2_with fail
    go_ret2
    exact ⟨_, rfl, by rw [HE.out]; exact Bs.nil _ _, HB1.out⟩

/-! ### Lent, Kept -/
def markS : ByteArray := ⟨#[98, 101, 104, 105, 110, 100, 32, 119, 104, 97, 116, 32, 119, 97, 115, 32, 104, 97, 110, 100, 101, 100, 32, 105, 110]⟩
def markC : Ce := ⟨0, 0, markS⟩
/-- Cells t, of a block from B on, and the mark behind them. -/
def LentC (B : Nat) (w : World) (v : Value) (t : List Ce) : Prop := ∃ g off cap, v = .slice (some ⟨g, off, none⟩) t.length cap ∧ t.length + 1 ≤ cap ∧ cap ≤ maxLen ∧ B ≤ g ∧ Sl w 60 3 (.slice (some ⟨g, off, none⟩) (t.length + 1) cap) (t.length + 1) (cvs (t ++ [markC]))
theorem LentC.below {B : Nat} {w w' : World} {v : Value} {t : List Ce} (h : LentC B w v t) (hb : Below w.heap.size w w') : LentC B w' v t := by
  obtain ⟨g, off, cap, h1, h2, h3, h4, h5⟩ := h
  exact ⟨g, off, cap, h1, h2, h3, h4, h5.keep fun k hk => hb.block k (h5.lt k hk)⟩
theorem LentC.rd {B : Nat} {w : World} {v : Value} {t : List Ce} (h : LentC B w v t) : Rd w 3 v t.length (cvs t) := by
  obtain ⟨g, off, cap, rfl, h2, h3, h4, h5⟩ := h
  have := h5.take (m := t.length) (by omega)
  rw [show cvs (t ++ [markC]) = cvs t ++ cvs [markC] by simp [cvs], List.take_left' (cvs_len t)] at this
  exact this.rd

theorem Tryd.info60b : (Tryd.prog.info? 60).map (fun i => (i.zero, i.size, i.bytes)) = some (some (.agg #[.int .i64 0, .int .i64 0, .string ByteArray.empty]), 3, 32) := by kernel_rfl
theorem cv_one2 (c : Ce) : ∀ u ∈ cv c, u.oneCell' = true := by intro u hu; simp [cv] at hu; rcases hu with rfl | rfl | rfl <;> rfl
theorem cvs_one2 (l : List Ce) : ∀ u ∈ cvs l, u.oneCell' = true := by
  intro u hu
  obtain ⟨c, _, hc⟩ := List.mem_flatMap.1 hu
  exact cv_one2 c u hc

set_option maxHeartbeats 1600000 in
set_option maxRecDepth 100000 in
theorem rlent_any (t : List Ce) (v : Value) (w : World) (hr : Rd w 3 v t.length (cvs t)) (hl : t.length * 32 ≤ 140737488355328) :
    Calls Tryd.prog 20 #[v] w fun e w' => ∃ v', e = .returned v' ∧ LentC w.heap.size w' v' t ∧ Below w.heap.size w w' := by
  obtain ⟨i0, hinf, hz0, hz1, hz2⟩ := info_parts Tryd.info60b
  obtain ⟨ao, cap, rfl, _, _⟩ := hr.shape
  have HR := Lib.hid hr
  clear hr
  have hl2 : t.length ≤ 4398046511104 := by omega
  go_enter Tryd.func20, Tryd.ntmps20
  go_wp2_with (at_builtin; refine wpList_append_sl_rd rfl (.tmp 4) (.tmp 5) 24 rfl 60 i0 (.agg #[.int .i64 0, .int .i64 0, .string ByteArray.empty]) 3 32 Tryd.underlying24 hinf hz0 hz1 hz2 rfl (by decide) (.slice none 0 0) 0 [] rfl (Sl.nil _ _ _) _ t.length (cvs t) rfl HR.out (cvs_one2 t) (by unfold maxLen; omega) (by omega) ?next)
  case next =>
    intro v1 w1 h1 hf1 hv1
    obtain ⟨ao1, cap1, rfl, hc1, hm1⟩ := h1.shape
    have hown1 : ∀ k, Value.ownBlock (.slice ao1 t.length cap1) = some k → w.heap.size ≤ k := fun k hk => by
      rcases hv1 with e | e
      · rw [e] at hk; simp [Value.ownBlock] at hk
      · rw [e] at hk; simp at hk; omega
    have hbe1 : Below w.heap.size w w1 := hf1.below (Nat.le_refl _) (fun k hk => by simp [Value.ownBlock] at hk)
    have H1 := Lib.hid h1
    have HO1 := Lib.hid hown1
    have HB1 := Lib.hid hbe1
    have hz := hbe1.size
    clear h1 hf1 hv1 hown1 hbe1
    go_wp2_with (at_builtin; refine wpList_append_one rfl (.tmp 7) (.tmp 9) 24 rfl 60 i0 (.agg #[.int .i64 0, .int .i64 0, .string ByteArray.empty]) 3 32 Tryd.underlying24 hinf hz0 hz1 hz2 rfl (by decide) _ t.length (cvs t) rfl (H1.out.alloc _) ⟨w1.heap.size, 0, none⟩ 1 (cvs [markC]) rfl rfl (cells_new w1 (cvs [markC]) 60) (cvs_one2 _) (by unfold maxLen; omega) (by omega) (by omega) ?next2)
    case next2 =>
      intro v2 w2 h2 hf2 hv2
      obtain ⟨g, off, cap2, cur, rfl, hc2, hm2, _⟩ := h2.blk (by omega)
      have hF : Fr (fun q => Value.ownBlock (.slice ao1 t.length cap1) = some q) w1 w2 := ((Fr.refl _ w1).alloc _).trans hf2
      have hn : w.heap.size ≤ g := by
        rcases hv2 with e | e
        · exact HO1.out g (e ▸ rfl)
        · simp [Value.ownBlock] at e; omega
      have HB := Lib.hid (HB1.out.trans (hF.below hz HO1.out))
      have H2 : Hid (Sl w2 60 3 (.slice (some ⟨g, off, none⟩) (t.length + 1) cap2) (t.length + 1) (cvs (t ++ [markC]))) := Lib.hid (by rw [show cvs (t ++ [markC]) = cvs t ++ cvs [markC] by simp [cvs]]; exact h2)
      have hm3 := hm2
      unfold maxLen at hm3
      clear hF h2 hf2 hv2 H1 HO1
      go_wp2_with fail
      go_ret
      exact ⟨_, rfl, ⟨g, off, cap2, rfl, hc2, hm2, hn, H2.out⟩, HB.out⟩

set_option maxHeartbeats 1600000 in
set_option maxRecDepth 100000 in
theorem rkept_any (B : Nat) (t : List Ce) (v u : Value) (w : World) (hr : Rd w 3 u t.length (cvs t)) (hl : LentC B w v t) (hle : t.length * 32 ≤ 140737488355328) :
    Calls Tryd.prog 23 #[v, u] w fun e w' => e = .returned (.bool true) ∧ Below w.heap.size w w' := by
  have HS := Lib.hid (same_any t t v u w hl.rd hr)
  obtain ⟨ao, capu, rfl, _, _⟩ := hr.shape
  have HL := Lib.hid hl
  obtain ⟨g, off, cap, rfl, h2, h3, h4, h5⟩ := hl
  have hm3 := h3
  unfold maxLen at hm3
  have hl2 : t.length ≤ 4398046511104 := by omega
  have H5 := Lib.hid h5
  clear hr h5
  go_enter Tryd.func23, Tryd.ntmps23
  go_wp2_with fail
  refine (HS.out).mono ?_
  rintro e w1 ⟨b, rfl, hb, hbe⟩
  obtain rfl : b = true := hb.2 (by trivial)
  have h6 : Sl w1 60 3 (.slice (some ⟨g, off, none⟩) (t.length + 1) cap) (t.length + 1) (cvs (t ++ [markC])) := H5.out.keep fun k hk => hbe.block k (H5.out.lt k hk)
  have c2 := h6.cell (t.length * 3 + 2) (by omega)
  rw [cvs_at (t := t ++ [markC]) (k := t.length) (c := markC) (by simp) 2 (by omega)] at c2
  have c3 : w1.cell? ⟨g, off + t.length * 3 + 2, none⟩ = some (.string markS) := by rw [Nat.add_assoc]; exact c2
  have HB := Lib.hid hbe
  unfold markS at c3
  clear h6 c2 hb hbe HS HL H5
  go_wp2_with fail
  go_ret
  exact ⟨rfl, HB.out⟩
end Go.Proofs.YtkhjdcnlpablkaaDoor

/-! EtfWrites: any cells, which stay; answers are new memory. -/
namespace Go.Proofs.YtkhjdcnlpablkaaDoor
open Go.RowKit
open Go.Lib (byteCells)

set_option maxHeartbeats 3200000 in
set_option maxRecDepth 100000 in
theorem etfWrites_walk (t : List Ce) (tv : Value) (hk : OkCes t) (w : World) (hr : Rd w 3 tv t.length (cvs t)) (hle : t.length * 32 ≤ 140737488355328) (hT : Lib.Utf8Tabs 0 1 w) :
    Calls Tryd.prog 7 #[tv] w fun e w' => e = .returned (.bool true) ∧ Below w.heap.size w w' := by
  have HT : Hid (∀ W, Below w.heap.size w W → Lib.Utf8Tabs 0 1 W) := Lib.hid (fun W h => tabs_below hT (Nat.le_refl _) h)
  have HK := Lib.hid hk
  have HR := Lib.hid hr
  have HLE := Lib.hid hle
  have H20 := Lib.hid (rlent_any t tv w hr hle)
  have HEN := Lib.hid (encV_len t)
  obtain ⟨ao, cap, rfl, _, _⟩ := hr.shape
  obtain ⟨e1, he1⟩ : ∃ e1, (rightT t).1 = e1 := ⟨_, rfl⟩
  have HX := Lib.hid he1
  obtain ⟨E, hE⟩ : ∃ E, encV t = E := ⟨_, rfl⟩
  have HE := Lib.hid hE
  rw [hE] at HEN
  have q1 : ((e1 : Int) != (e1 : Int)) = false := by simp
  have q2 : ((E.length : Int) != (E.length : Int)) = false := by simp
  clear hk hr hT hle he1 hE
  go_enter Tryd.func7, Tryd.ntmps7
  go_wp2_with fail
  refine (H20.out).mono ?_
  rintro e w1 ⟨v1, rfl, hl1, hbe1⟩
  have HL1 := Lib.hid hl1
  have HBE1 := Lib.hid hbe1
  have h16 := Encode_any t v1 HK.out w1 hl1.rd (HT.out _ hbe1)
  rw [HX.out, HE.out] at h16
  have H16 := Lib.hid h16
  obtain ⟨aol, capl, rfl, _, _⟩ := hl1.rd.shape
  clear hl1 hbe1 H20 h16
  go_wp2_with fail
  refine (H16.out).mono ?_
  rintro e w2 ⟨va, rfl, hba, hbe2⟩
  have HBA := Lib.hid hba
  have HL2 := Lib.hid (HL1.out.below hbe2)
  have HBE2 := Lib.hid (HBE1.out.trans (hbe2.mono HBE1.out.size))
  have h16 := Encode_any t _ HK.out w2 HL2.out.rd (HT.out _ HBE2.out)
  rw [HX.out, HE.out] at h16
  have H16b := Lib.hid h16
  have hz1 := HBE1.out.size
  obtain ⟨aoa, capa, rfl, _, hma⟩ := hba.shape
  unfold maxLen at hma
  have HALT : Hid (∀ k, Value.ownBlock (.slice aoa E.length capa) = some k → w.heap.size ≤ k ∧ k < w2.heap.size) := Lib.hid (fun k hk => ⟨Nat.le_trans hz1 (HBA.out.own k hk), HBA.out.sl.lt k hk⟩)
  clear hba hbe2 HL1 HBE1 H16 h16 hz1
  go_wp2_with fail
  refine (H16b.out).mono ?_
  rintro e w3 ⟨vb, rfl, hbb, hbe3⟩
  have HBB := Lib.hid hbb
  have HBA3 := Lib.hid (HBA.out.below hbe3)
  have HL3 := Lib.hid (HL2.out.below hbe3)
  have HBE3 := Lib.hid (HBE2.out.trans (hbe3.mono HBE2.out.size))
  have h21 := REncode_any t _ HK.out w3 (HR.out.below (Nat.le_refl _) HBE3.out)
  rw [HX.out, HE.out] at h21
  have H21 := Lib.hid h21
  have hz2 := hbe3.size
  have HZ2 := Lib.hid hz2
  obtain ⟨aob, capb, rfl, _, _⟩ := hbb.shape
  clear hbb hbe3 HL2 HBE2 H16b h21 HBA hz2
  go_wp2_with fail
  refine (H21.out).mono ?_
  rintro e w4 ⟨vc, rfl, hbc, hbe4⟩
  have HBC := Lib.hid hbc
  have HBA4 := Lib.hid (HBA3.out.below hbe4)
  have HBB4 := Lib.hid (HBB.out.below hbe4)
  have HL4 := Lib.hid (HL3.out.below hbe4)
  have HBE4 := Lib.hid (HBE3.out.trans (hbe4.mono HBE3.out.size))
  have h22 := Size_any t _ HK.out w4 HL4.out.rd (HT.out _ HBE4.out)
  rw [HX.out, HE.out] at h22
  have H22 := Lib.hid h22
  obtain ⟨aoc, capc, rfl, _, _⟩ := hbc.shape
  clear hbc hbe4 HL3 HBE3 H21 h22 HBA3 HBB
  go_wp2_with fail
  refine (H22.out).mono ?_
  rintro e w5 ⟨rfl, hbe5⟩
  have HBC5 := Lib.hid (HBC.out.below hbe5)
  have HBA5 := Lib.hid (HBA4.out.below hbe5)
  have HBB5 := Lib.hid (HBB4.out.below hbe5)
  have HL5 := Lib.hid (HL4.out.below hbe5)
  have HBE5 := Lib.hid (HBE4.out.trans (hbe5.mono HBE4.out.size))
  have H18 := Lib.hid (bsame_any E E _ _ w5 HBA5.out.sl.rd HBC5.out.sl.rd)
  clear hbe5 HL4 HBE4 H22 HBA4 HBB4 HBC
  go_wp2_with fail
  refine (H18.out).mono ?_
  rintro e w6 ⟨b, rfl, hb, hbe6⟩
  obtain rfl : b = true := hb.2 (by trivial)
  have HBC6 := Lib.hid (HBC5.out.below hbe6)
  have HBA6 := Lib.hid (HBA5.out.below hbe6)
  have HBB6 := Lib.hid (HBB5.out.below hbe6)
  have HL6 := Lib.hid (HL5.out.below hbe6)
  have HBE6 := Lib.hid (HBE5.out.trans (hbe6.mono HBE5.out.size))
  have H23 := Lib.hid (rkept_any _ t _ _ w6 (HR.out.below (Nat.le_refl _) HBE6.out) HL6.out HLE.out)
  clear hb hbe6 HL5 HBE5 H18 HBA5 HBB5 HBC5
  go_wp2_with fail
  refine (H23.out).mono ?_
  rintro e w7 ⟨rfl, hbe7⟩
  have HBC7 := Lib.hid (HBC6.out.below hbe7)
  have HBA7 := Lib.hid (HBA6.out.below hbe7)
  have HBB7 := Lib.hid (HBB6.out.below hbe7)
  have HBE7 := Lib.hid (HBE6.out.trans (hbe7.mono HBE6.out.size))
  clear hbe7 HL6 HBE6 H23 HBA6 HBB6 HBC6
  go_wp2_with fail
  go_loopg [12, 63] E.length (fun g _ s63 wr => ∃ (k : Nat) (zs : List Value), s63 = .int .i64 k ∧ k + g = E.length ∧ Fr (fun q => Value.ownBlock (.slice aoa E.length capa) = some q) w7 wr ∧ Sl wr 5 1 (.slice aoa E.length capa) E.length zs)
  case atStart => exact ⟨0, _, rfl, by omega, Fr.refl _ _, HBA7.out.sl⟩
  case round =>
    obtain ⟨k, zs, rfl, hkg, hfr, hsl⟩ := hrel
    cases gk with
    | zero =>
      obtain rfl : k = E.length := by omega
      have hbr : Below w.heap.size w wr := HBE7.out.trans (hfr.below HBE7.out.size (fun q hq => (HALT.out q hq).1))
      have HBR := Lib.hid hbr
      have HBBr : Hid (Sl wr 5 1 (.slice aob E.length capb) E.length (byteCells E)) := Lib.hid (hfr.sl HBB7.out.sl (fun q hq hv => by have h1 := HBB7.out.own q hq; have h2 := (HALT.out q hv).2; omega))
      have HBCr : Hid (Sl wr 5 1 (.slice aoc E.length capc) E.length (byteCells E)) := Lib.hid (hfr.sl HBC7.out.sl (fun q hq hv => by have h1 := HBC7.out.own q hq; have h2 := (HALT.out q hv).2; have h3 := HZ2.out; omega))
      have H18b := Lib.hid (bsame_any E E _ _ wr HBBr.out.rd HBCr.out.rd)
      clear hfr hsl hbr
      go_wp2_with fail
      refine (H18b.out).mono ?_
      rintro e w8 ⟨b, rfl, hb, hbe8⟩
      obtain rfl : b = true := hb.2 (by trivial)
      have HBE8 := Lib.hid (HBR.out.trans (hbe8.mono HBR.out.size))
      have HAW := Lib.hid (awake_any w8 (fun W hW => HT.out W (HBE8.out.trans (hW.mono HBE8.out.size))))
      clear hb hbe8 H18b HBBr HBCr
      go_wp2_with fail
      refine (HAW.out).mono ?_
      rintro e w9 ⟨rfl, hbe9⟩
      have HBE9 := Lib.hid (HBE8.out.trans (hbe9.mono HBE8.out.size))
      clear hbe9 HAW
      go_wp2_with fail
      go_ret
      exact ⟨rfl, HBE9.out⟩
    | succ g =>
      have hkn : k < E.length := by omega
      have hkz : (k : Int) < (E.length : Int) := by omega
      obtain ⟨ga, oa, capa', cur, hva, _, _, _⟩ := hsl.blk (by omega)
      simp at hva
      obtain ⟨rfl, rfl⟩ := hva
      have c0 := hsl.cell k (by omega)
      have hzl : k < zs.length := by have := hsl.len; omega
      rw [List.getElem?_eq_getElem hzl] at c0
      have f0 := hsl.free (oa + k)
      have HFR := Lib.hid hfr
      have HSL := Lib.hid hsl
      clear hfr hsl
      go_wp2_with fail
      go_roundg g
      case measure => omega
      case rel => exact ⟨k + 1, _, by go_num, by omega, HFR.out.setCell (p := ⟨ga, oa + k, none⟩) (.inl rfl) _, HSL.out.store k (by omega) (.int .u8 99)⟩
end Go.Proofs.YtkhjdcnlpablkaaDoor
