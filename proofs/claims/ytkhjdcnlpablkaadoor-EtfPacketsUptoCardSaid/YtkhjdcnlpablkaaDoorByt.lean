/- Bytes that are written: a slice of bytes of one's own; put16, put32, putAtom. -/
import Derived.Test.YtkhjdcnlpablkaaDoorTrm
import Derived.Lib.AppendStr
import Derived.Lib.UnsafeStr
import Derived.Lib.BufferWrite
namespace Go.Proofs.YtkhjdcnlpablkaaDoor
open Go.RowKit
open Go.Lib (byteCells strCells)

theorem Tryd.info5 : (Tryd.prog.info? 5).map (fun i => (i.zero, i.size, i.bytes)) = some (some (.int .u8 0), 1, 1) := by kernel_rfl

/-- The lowest byte of a number. -/
def b8 (n : Int) : UInt8 := (n % 256).toNat.toUInt8
theorem b8_val (n : Int) : ((b8 n).toNat : Int) = n % 256 := by
  unfold b8
  simp
  omega
theorem b8_mod (n : Int) : b8 (n % 256) = b8 n := by unfold b8; rw [Int.emod_emod_of_dvd n (by decide)]
theorem b8_u8 (x : UInt8) : b8 (x.toNat : Int) = x := by
  unfold b8
  have := UInt8.toNat_lt x
  rw [Int.emod_eq_of_lt (by omega) (by omega)]
  simp

def be2 (n : Int) : List UInt8 := [b8 (n / 256), b8 n]
def be4 (n : Int) : List UInt8 := [b8 (n / 16777216), b8 (n / 65536), b8 (n / 256), b8 n]

theorem bytes1 (n : Int) : [Value.int .u8 (n % 256)] = byteCells [b8 n] := by simp [byteCells, b8_val]
theorem bytes2 (n m : Int) : [Value.int .u8 (n % 256), Value.int .u8 (m % 256)] = byteCells [b8 n, b8 m] := by simp [byteCells, b8_val]
theorem bytes4 (a b c d : Int) : [Value.int .u8 (a % 256), Value.int .u8 (b % 256), Value.int .u8 (c % 256), Value.int .u8 (d % 256)] = byteCells [b8 a, b8 b, b8 c, b8 d] := by simp [byteCells, b8_val]

/-- A slice of bytes whose memory lies at B or behind it. -/
structure Bs (B : Nat) (w : World) (v : Value) (xs : List UInt8) : Prop where
  sl : Sl w 5 1 v xs.length (byteCells xs)
  own : ∀ k, v.ownBlock = some k → B ≤ k

theorem Bs.nil (B : Nat) (w : World) : Bs B w (.slice none 0 0) [] := ⟨Sl.nil _ _ _, fun k h => by simp [Value.ownBlock] at h⟩
theorem Bs.alloc {B : Nat} {w : World} {v : Value} {xs : List UInt8} (h : Bs B w v xs) (o : Obj) : Bs B (w.alloc o) v xs := ⟨h.sl.alloc o, h.own⟩
theorem Bs.drewN {B : Nat} {w : World} {v : Value} {xs : List UInt8} (h : Bs B w v xs) (n : Nat) : Bs B (w.drewN n) v xs := ⟨h.sl.drewN n, h.own⟩
theorem Bs.below {B : Nat} {w w' : World} {v : Value} {xs : List UInt8} (h : Bs B w v xs) (hb : Below w.heap.size w w') : Bs B w' v xs := ⟨h.sl.keep fun k hk => hb.block k (h.sl.lt k hk), h.own⟩
theorem Bs.shape {B : Nat} {w : World} {v : Value} {xs : List UInt8} (h : Bs B w v xs) : ∃ ao cap, v = .slice ao xs.length cap ∧ xs.length ≤ cap ∧ cap ≤ maxLen := h.sl.shape

theorem cells_new (w : World) (cs : List Value) (t : TypeId) : ∀ j u, cs[j]? = some u → (w.alloc (.cells cs.toArray t)).cell? ((⟨w.heap.size, 0, none⟩ : Addr).add j) = some u := by
  intro j u hj
  rw [Addr.add_lit, blk_cell (heap_alloc_new w _)]
  simpa using hj

/-- What a step that writes leaves: the bytes; what was there but the slice's own memory is as it was. -/
structure Wr (B : Nat) (w : World) (v : Value) (w' : World) (v' : Value) (ys : List UInt8) : Prop where
  bs : Bs B w' v' ys
  bel : Below B w w'
  fr : Fr (fun q => v.ownBlock = some q) w w'
  nw : ∀ q, v'.ownBlock = some q → v.ownBlock = some q ∨ w.heap.size ≤ q

theorem Wr.trans {B : Nat} {w w1 w2 : World} {v v1 v2 : Value} {ys zs : List UInt8} (h : Wr B w v w1 v1 ys) (k : Wr B w1 v1 w2 v2 zs) : Wr B w v w2 v2 zs :=
  ⟨k.bs, h.bel.trans k.bel, h.fr.trans' k.fr fun i hi => h.nw i hi, fun q hq => by
    rcases k.nw q hq with e | e
    · exact h.nw q e
    · have := h.fr.size; exact .inr (by omega)⟩

/-- Behind a step that leaves all that was there. -/
theorem Wr.behind {B : Nat} {w w1 w2 : World} {v v2 : Value} {zs : List UInt8} (hb : Below w.heap.size w w1) (hB : B ≤ w.heap.size) (k : Wr B w1 v w2 v2 zs) : Wr B w v w2 v2 zs :=
  ⟨k.bs, (hb.mono hB).trans k.bel, Fr.trans' ⟨hb.os, hb.tape, hb.output, hb.size, fun q hq _ => hb.block q hq⟩ k.fr (fun i hi => .inl hi), fun q hq => by
    rcases k.nw q hq with e | e
    · exact .inl e
    · have := hb.size; exact .inr (by omega)⟩

theorem Wr.below {B : Nat} {w w1 w2 : World} {v v1 : Value} {ys : List UInt8} (h : Wr B w v w1 v1 ys) (hB : B ≤ w.heap.size) (hb : Below w1.heap.size w1 w2) : Wr B w v w2 v1 ys :=
  ⟨h.bs.below hb, h.bel.trans (hb.mono (Nat.le_trans hB h.fr.size)), h.fr.trans ⟨hb.os, hb.tape, hb.output, hb.size, fun q hq _ => hb.block q hq⟩, h.nw⟩

theorem Wr.refl {B : Nat} {w : World} {v : Value} {ys : List UInt8} (h : Bs B w v ys) : Wr B w v w v ys := ⟨h, Below.refl _ _, Fr.refl _ _, fun _ hq => .inl hq⟩

/-- APPEND of bytes that are built on the spot. -/
theorem wpList_bytesAt {w : World} {ops : Array Oper} {rest : List Oper} {o : Oper} {a : Act} {Q : Exit → Act → World → Prop} (s x : Operand) {B : Nat} {v : Value} {xs : List UInt8} (news : List UInt8) (cs : List Value) (m b : Nat) (hb : b = w.heap.size)
    (hgd : o.guard = none) (ho : o.op = .call { callee := .builtin .append, args := #[s, x], argTypes := #[22, 22] })
    (hs : a.eval s = v) (hx : a.eval x = .slice (some ⟨b, 0, none⟩) m m) (h : Bs B w v xs) (hcs : cs = byteCells news) (hm : news.length = m) (hB : B ≤ w.heap.size) (hl : xs.length + m ≤ 1000000000000)
    (k : ∀ v' w', Wr B w v w' v' (xs ++ news) → wpList Tryd.prog ops Q rest (a.put o.dst v') w') : wpList Tryd.prog ops Q (o :: rest) a (w.alloc (.cells cs.toArray 5)) := by
  obtain ⟨i0, hinf, hz0, hz1, hz2⟩ := info_parts Tryd.info5
  subst hcs hm hb
  refine wpList_append_sl hgd s x 22 ho 5 i0 (.int .u8 0) 1 1 Tryd.underlying22 hinf hz0 hz1 hz2 rfl (by decide) v xs.length (byteCells xs) hs (h.sl.alloc _) ⟨w.heap.size, 0, none⟩ news.length news.length (byteCells news) hx
    (by rw [Lib.byteCells_length]; omega) (cells_new w _ 5) (fun u hu => Lib.byteCells_one news u hu) (by unfold maxLen; omega) (by omega) ?_
  intro v' w' hsl hfr hown
  have hF : Fr (fun q => v.ownBlock = some q) w w' := ((Fr.refl _ w).alloc _).trans hfr
  have hn : ∀ q, v'.ownBlock = some q → v.ownBlock = some q ∨ w.heap.size ≤ q := fun q hq => by
    rcases hown with e | e
    · exact .inl (e ▸ hq)
    · rw [e] at hq; simp at hq; exact .inr (by omega)
  refine k v' w' ⟨⟨?_, fun q hq => ?_⟩, hF.below hB fun q hq => h.own q hq, hF, hn⟩
  · rw [Lib.byteCells_append, List.length_append]; exact hsl
  · rcases hn q hq with e | e
    · exact h.own q e
    · omega

theorem wpList_bytes {w : World} {ops : Array Oper} {rest : List Oper} {o : Oper} {a : Act} {Q : Exit → Act → World → Prop} (s x : Operand) {B : Nat} {v : Value} {xs : List UInt8} (news : List UInt8) (cs : List Value) (m : Nat)
    (hgd : o.guard = none) (ho : o.op = .call { callee := .builtin .append, args := #[s, x], argTypes := #[22, 22] })
    (hs : a.eval s = v) (hx : a.eval x = .slice (some ⟨w.heap.size, 0, none⟩) m m) (h : Bs B w v xs) (hcs : cs = byteCells news) (hm : news.length = m) (hB : B ≤ w.heap.size) (hl : xs.length + m ≤ 1000000000000)
    (k : ∀ v' w', Wr B w v w' v' (xs ++ news) → wpList Tryd.prog ops Q rest (a.put o.dst v') w') : wpList Tryd.prog ops Q (o :: rest) a (w.alloc (.cells cs.toArray 5)) := by
  exact wpList_bytesAt s x news cs m w.heap.size rfl hgd ho hs hx h hcs hm hB hl k

/-- APPEND of bytes that are read. -/
theorem wpList_bytes_rd {w : World} {ops : Array Oper} {rest : List Oper} {o : Oper} {a : Act} {Q : Exit → Act → World → Prop} (s x : Operand) {B : Nat} {v y : Value} {xs : List UInt8} (news : List UInt8)
    (hgd : o.guard = none) (ho : o.op = .call { callee := .builtin .append, args := #[s, x], argTypes := #[22, 22] })
    (hs : a.eval s = v) (hx : a.eval x = y) (h : Bs B w v xs) (hrd : Rd w 1 y news.length (byteCells news)) (hB : B ≤ w.heap.size) (hl : xs.length + news.length ≤ 140737488355328)
    (k : ∀ v' w', Wr B w v w' v' (xs ++ news) → wpList Tryd.prog ops Q rest (a.put o.dst v') w') : wpList Tryd.prog ops Q (o :: rest) a w := by
  obtain ⟨i0, hinf, hz0, hz1, hz2⟩ := info_parts Tryd.info5
  refine wpList_append_sl_rd hgd s x 22 ho 5 i0 (.int .u8 0) 1 1 Tryd.underlying22 hinf hz0 hz1 hz2 rfl (by decide) v xs.length (byteCells xs) hs h.sl y news.length (byteCells news) hx hrd
    (fun u hu => Lib.byteCells_one news u hu) (by unfold maxLen; omega) (by omega) ?_
  intro v' w' hsl hfr hown
  have hn : ∀ q, v'.ownBlock = some q → v.ownBlock = some q ∨ w.heap.size ≤ q := fun q hq => by
    rcases hown with e | e
    · exact .inl (e ▸ hq)
    · rw [e] at hq; simp at hq; exact .inr (by omega)
  refine k v' w' ⟨⟨?_, fun q hq => ?_⟩, hfr.below hB fun q hq => h.own q hq, hfr, hn⟩
  · rw [Lib.byteCells_append, List.length_append]; exact hsl
  · rcases hn q hq with e | e
    · exact h.own q e
    · omega

theorem Sl.ofRow {w : World} {base e size n : Nat} {v : Value} {xs : List Value} (h : w.ownsRow base e size v n xs) : Sl w e size v n xs := by
  obtain ⟨hl, h⟩ := h
  rcases h with ⟨rfl, rfl⟩ | ⟨g, cap, cur, rfl, hb, hg, hnc, hcm, hcs, ht⟩
  · have : xs = [] := List.eq_nil_of_length_eq_zero (by simpa using hl)
    subst this
    exact Sl.nil _ _ _
  · exact ⟨_, _, rfl, hl, hnc, hcm, .inr ⟨g, 0, cur, rfl, hg, by omega, by simpa using ht⟩⟩

/-- APPEND of a text's bytes. -/
theorem run_append_sl_str {P : Program} (w : World) (t u ty e : TypeId) (i : TypeInfo) (ht : P.underlying t = some (.slice e)) (hu : P.underlying u = some .string) (hi : P.info? e = some i) (hz : i.zero = some (.int .u8 0))
    (hsize : i.size = 1) (hby : i.bytes = 1) (v : Value) (n : Nat) (xs : List Value) (hs : Sl w e 1 v n xs) (s : ByteArray) (h63 : n + s.size ≤ maxLen) (hbytes : n + s.size ≤ 140737488355328) :
    ∃ v' w', (Builtin.append_ #[t, u] ty #[v, .string s]).run P w = .ok v' w' ∧ Sl w' e 1 v' (n + s.size) (xs ++ strCells s) ∧ Fr (fun k => v.ownBlock = some k) w w' ∧
      (∀ k, v'.ownBlock = some k → v.ownBlock = some k ∨ w.heap.size ≤ k) := by
  have hsmall : n + s.size ≤ 9223372036854775807 := by simp only [maxLen] at h63; omega
  obtain ⟨ao, cap, rfl, h0, hnc, hcm, h3⟩ := hs
  have hxl : xs.length = n := by simpa using h0
  have hlen : (xs ++ strCells s).length = (n + s.size) * 1 := by rw [List.length_append, hxl, Lib.strCells_length, Nat.mul_one]
  rcases h3 with ⟨rfl, rfl⟩ | ⟨g, off, cur, rfl, hg, hfit0, htake⟩
  · obtain rfl : n = 0 := by omega
    have hx : xs = [] := List.eq_nil_of_length_eq_zero (by omega)
    subst hx
    obtain ⟨v', w', h1, h2, h4, _⟩ := Lib.run_append_own_string (P := P) w w.heap.size t u ty e i ht hu hi hz hsize hby (.slice none 0 0) 0 [] ⟨by simp, .inl ⟨rfl, rfl⟩⟩ s h63 hbytes (Nat.le_refl _)
    refine ⟨v', w', h1, Sl.ofRow h2, (Fr.refl _ w).grown h4 (fun k hk => by simp [Value.ownBlock] at hk), fun k hk => .inr ?_⟩
    rcases h2.2 with ⟨rfl, _⟩ | ⟨g, cap, cur, rfl, hb, _⟩
    · simp [Value.ownBlock] at hk
    · simp [Value.ownBlock] at hk; omega
  · by_cases hroom : n + s.size ≤ cap
    · have hf := Lib.run_firstCells_string (P := P) w 1 s
      have hst := run_storeCells_at P g (off + n) e (strCells s) 0 cur w hg (by simp only [Nat.add_zero, Lib.strCells_length]; omega) (Lib.strCells_oneCell s)
      simp only [Nat.add_zero] at hst
      refine ⟨.slice (some ⟨g, off, none⟩) (n + s.size) cap, w.setRow g (cur.toList.take (off + n) ++ strCells s ++ cur.toList.drop (off + n + (strCells s).length)).toArray, ?_, ⟨_, _, rfl, hlen, hroom, hcm, .inr ⟨g, off, _, rfl, setRow_heap w g cur _ e _ hg, ?_, ?_⟩⟩, ⟨rfl, rfl, rfl, by simp, fun k _ hk => setRow_other w g k _ (fun e => hk (by simp [Value.ownBlock, e]))⟩, fun k hk => .inl hk⟩
      · simp [Builtin.append_, run_underlying ht, run_underlying hu, sizeOf, typeInfo, hi, hsize, Builtin.lenOf, hroom, hf, Addr.add_lit, hst]
      · simp only [List.size_toArray, List.length_append, List.length_take, List.length_drop, Array.length_toList, Lib.strCells_length]
        omega
      · simp only [List.append_assoc]
        rw [List.drop_append_of_le_length (by simp; omega)]
        have e1 : List.drop off (List.take (off + n) cur.toList) = xs := by
          rw [List.drop_take, show off + n - off = n by omega]; simpa using htake
        rw [e1, ← List.append_assoc, ← hlen]
        exact List.take_left
    · have holds : ∀ j u, xs[j]? = some u → w.cell? ((⟨g, off, none⟩ : Addr).add j) = some u := by
        intro j u hu
        have hj : j < n := by have := (List.getElem?_eq_some_iff.1 hu).1; omega
        rw [Addr.add_lit, blk_cell hg, ← hu, ← htake, List.getElem?_take, if_pos (by omega), List.getElem?_drop]
        simp
      have hr := Lib.run_append_grow_string (P := P) w t u ty e i (.int .u8 0) ht hu hi hz ⟨g, off, none⟩ n cap xs (by rw [hsize]; omega) holds s (by omega) (by omega) (by rw [hby]; exact growslice_fits (by omega) (by omega))
      have hge := grownCap_ge w (n + s.size) cap e
      have hcm2 : grownCap w (n + s.size) cap e ≤ maxLen := grownCap_le_maxLen w (n + s.size) cap e h63
      refine ⟨_, _, hr, ⟨_, _, rfl, hlen, hge, hcm2, .inr ⟨w.heap.size, 0, _, rfl, heap_alloc_new w.drew _, ?_, ?_⟩⟩, ((Fr.refl _ w).drew).alloc _, fun k hk => .inr ?_⟩
      · have hz1 : (Value.int IntKind.u8 0).cells.size = 1 := rfl
        simp only [Array.size_append, List.size_toArray, size_zeroCells, hz1, hxl, Lib.strCells_length]
        omega
      · simp only [Array.toList_append, List.append_assoc, List.drop_zero]
        rw [← List.append_assoc, ← hlen]
        exact List.take_left
      · simp [Value.ownBlock] at hk; omega

theorem wpList_bytes_str {w : World} {ops : Array Oper} {rest : List Oper} {o : Oper} {a : Act} {Q : Exit → Act → World → Prop} (s x : Operand) {B : Nat} {v : Value} {xs : List UInt8} (str : ByteArray)
    (hgd : o.guard = none) (ho : o.op = .call { callee := .builtin .append, args := #[s, x], argTypes := #[22, 9] })
    (hs : a.eval s = v) (hx : a.eval x = .string str) (h : Bs B w v xs) (hB : B ≤ w.heap.size) (hl : xs.length + str.size ≤ 140737488355328)
    (k : ∀ v' w', Wr B w v w' v' (xs ++ str.data.toList) → wpList Tryd.prog ops Q rest (a.put o.dst v') w') : wpList Tryd.prog ops Q (o :: rest) a w := by
  obtain ⟨i0, hinf, hz0, hz1, hz2⟩ := info_parts Tryd.info5
  refine wpList_plain hgd fun K hK => ?_
  obtain ⟨v', w', hr, h2, h3, h4⟩ := run_append_sl_str (P := Tryd.prog) w 22 9 o.type 5 i0 Tryd.underlying22 Tryd.underlying9 hinf hz0 hz1 hz2 v xs.length (byteCells xs) h.sl str (by unfold maxLen; omega) hl
  unfold Oper.wp execOp
  simp only [ho, resolve, invoke, builtin, Sem.run_bind, Sem.run_pure, Result.andThen_ok, List.map_toArray, List.map_cons, List.map_nil, hs, hx, hr]
  refine hK _ _ (k v' w' ⟨⟨?_, fun q hq => ?_⟩, h3.below hB fun q hq => h.own q hq, h3, h4⟩)
  · rw [Lib.byteCells_append, List.length_append, ← Lib.strCells_eq]
    simpa using h2
  · rcases h4 q hq with e | e
    · exact h.own q e
    · omega

/-- What a writing call leaves. -/
def BPost (B : Nat) (w : World) (v : Value) (ys : List UInt8) (e : Ending) (w' : World) : Prop := ∃ v', e = .returned v' ∧ Wr B w v w' v' ys

set_option maxRecDepth 100000 in
theorem put32_any (B : Nat) (v : Value) (xs : List UInt8) (n : Int) (w : World) (hB : B ≤ w.heap.size) (h : Bs B w v xs) (hl : xs.length ≤ 900000000000) : Calls Tryd.prog 39 #[v, .int .i64 n] w (BPost B w v (xs ++ be4 n)) := by
  have H := Lib.hid h
  clear h
  go_enter Tryd.func39, Tryd.ntmps39
  go_wp2_with (at_builtin; refine wpList_bytes (.tmp 5) (.tmp 17) [b8 (n / 16777216), b8 (n / 65536), b8 (n / 256), b8 n] _ 4 rfl rfl rfl rfl H.out (bytes4 _ _ _ _) rfl hB (by omega) ?next)
  case next =>
    intro v' w' h1
    have H1 := Lib.hid h1
    clear h1
    go_wp2_with fail
    go_ret
    exact ⟨_, rfl, H1.out⟩

set_option maxRecDepth 100000 in
theorem put16_any (B : Nat) (v : Value) (xs : List UInt8) (n : Int) (w : World) (hB : B ≤ w.heap.size) (h : Bs B w v xs) (hl : xs.length ≤ 900000000000) : Calls Tryd.prog 69 #[v, .int .i64 n] w (BPost B w v (xs ++ be2 n)) := by
  have H := Lib.hid h
  clear h
  go_enter Tryd.func69, Tryd.ntmps69
  go_wp2_with (at_builtin; refine wpList_bytes (.tmp 5) (.tmp 11) [b8 (n / 256), b8 n] _ 2 rfl rfl rfl rfl H.out (bytes2 _ _) rfl hB (by omega) ?next)
  case next =>
    intro v' w' h1
    have H1 := Lib.hid h1
    clear h1
    go_wp2_with fail
    go_ret
    exact ⟨_, rfl, H1.out⟩

def atomB (s : ByteArray) : List UInt8 := [119, b8 (s.size : Int)] ++ s.data.toList

set_option maxRecDepth 100000 in
theorem putAtom_any (B : Nat) (v : Value) (xs : List UInt8) (s : ByteArray) (hs : s.size ≤ 100000) (w : World) (hB : B ≤ w.heap.size) (h : Bs B w v xs) (hl : xs.length ≤ 900000000000) : Calls Tryd.prog 68 #[v, .string s] w (BPost B w v (xs ++ atomB s)) := by
  have H := Lib.hid h
  clear h
  go_enter Tryd.func68, Tryd.ntmps68
  go_wp2_with (at_builtin; refine wpList_bytes (.tmp 5) (.tmp 9) [119, b8 (s.size : Int)] _ 2 rfl rfl rfl rfl H.out (by simp [byteCells, b8_val]) rfl hB (by omega) ?next)
  case next =>
    intro v' w' h1
    have H1 := Lib.hid h1
    have hz := h1.bel.size
    clear h1
    go_wp2_with (at_builtin; refine wpList_bytes_str (.tmp 11) (.tmp 12) s rfl rfl rfl rfl H1.out.bs (by omega) (by simp; omega) ?next2)
    case next2 =>
      intro v2 w2 h3
      have H3 := Lib.hid h3
      clear h3
      go_wp2_with fail
      go_ret
      exact ⟨_, rfl, by have := H1.out.trans H3.out; simpa [atomB] using this⟩
end Go.Proofs.YtkhjdcnlpablkaaDoor
