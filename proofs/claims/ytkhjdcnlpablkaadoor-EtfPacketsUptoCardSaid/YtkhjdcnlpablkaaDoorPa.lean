/- Several texts in one: Nz, Room, Renc, Rrun, Rsho, Rterm, Rlist, Rcod, Ddp, Dlf, Dtx, Dbig, Dpid, Dref, Dsml, Dkid, Dtup, Dlst, Dtrm, Ddec. -/
import Derived.Test.YtkhjdcnlpablkaaDoorGood
import Derived.Test.YtkhjdcnlpablkaaDoorBase
import Derived.Test.YtkhjdcnlpablkaaDoorEncode
import Derived.Laws.IdiomStrings
import Derived.Test.YtkhjdcnlpablkaaDoorInv2
import Derived.Test.YtkhjdcnlpablkaaDoorIter
import Derived.Test.YtkhjdcnlpablkaaDoorSam2
import Derived.Test.YtkhjdcnlpablkaaDoorStk
import Derived.Test.YtkhjdcnlpablkaaDoorDec
import Derived.Test.YtkhjdcnlpablkaaDoorRdq
import Derived.Test.YtkhjdcnlpablkaaDoorMade
import Derived.Test.YtkhjdcnlpablkaaDoorBig
import Derived.Test.YtkhjdcnlpablkaaDoorChars
import Derived.Test.YtkhjdcnlpablkaaDoorRef
import Derived.Test.YtkhjdcnlpablkaaDoorDecode
/-! Plain: a fault's number is not nought; what is read has short texts. -/
namespace Go.Proofs.YtkhjdcnlpablkaaDoor

/-- Faults of x have numbers. -/
def NZ {α : Type} (x : Res α) : Prop := ∀ e p, x = .bad e p → e ≠ 0
theorem nz_ok {α : Type} (a : α) : NZ (.ok a) := fun _ _ h => by cases h
theorem nz_bad {α : Type} {e p : Nat} (h : e ≠ 0) : NZ (.bad e p : Res α) := fun _ _ h' => by cases h'; exact h
theorem nz_bind {α β : Type} {x : Res α} {f : α → Res β} (hx : NZ x) (hf : ∀ a, NZ (f a)) : NZ (x.bind f) := by
  intro e p h
  cases x with
  | bad e' p' => cases h; exact hx _ _ rfl
  | ok a => exact hf a e p h
theorem nz_if {α : Type} {c : Prop} [Decidable c] {x y : Res α} (hx : NZ x) (hy : NZ y) : NZ (if c then x else y) := by split <;> assumption
theorem nz_num (bs : List UInt8) (p n : Nat) : NZ (numD bs p n) := nz_if (nz_bad (by omega)) (nz_ok _)
theorem nz_take (bs : List UInt8) (p n : Nat) : NZ (takeD bs p n) := nz_if (nz_bad (by omega)) (nz_ok _)
theorem nz_text (bs : List UInt8) (p t g : Nat) : NZ (textD bs p t g) := nz_bind (nz_num _ _ _) fun _ => nz_bind (nz_take _ _ _) fun _ => nz_if (nz_ok _) (nz_bad (by omega))
theorem nz_host (bs : List UInt8) (p : Nat) : NZ (hostD bs p) := nz_bind (nz_num _ _ _) fun _ => nz_if (nz_bad (by omega)) (nz_bind (nz_text _ _ _ _) fun _ => nz_ok _)
theorem nz_big (bs : List UInt8) (p g : Nat) : NZ (bigD bs p g) := nz_bind (nz_num _ _ _) fun _ => nz_bind (nz_num _ _ _) fun _ => nz_bind (nz_take _ _ _) fun _ => nz_if (nz_bad (by omega)) (nz_if (nz_bad (by omega)) (nz_ok _))
theorem nz_pid (bs : List UInt8) (p g : Nat) : NZ (pidD bs p g) := nz_bind (nz_host _ _) fun _ => nz_bind (nz_num _ _ _) fun _ => nz_bind (nz_num _ _ _) fun _ => nz_bind (nz_num _ _ _) fun _ => nz_if (nz_bad (by omega)) (nz_ok _)
theorem nz_ref (bs : List UInt8) (p g : Nat) : NZ (refD bs p g) := nz_bind (nz_num _ _ _) fun _ => nz_bind (nz_host _ _) fun _ => nz_bind (nz_num _ _ _) fun _ => nz_bind (nz_take _ _ _) fun _ => by
  split
  · exact nz_bad (by omega)
  · exact nz_ok _
theorem nz_made (s : Rs) (p g : Nat) (c : Ce) : NZ (madeD s p g c) := nz_if (nz_bad (by omega)) (nz_ok _)
theorem nz_one (bs : List UInt8) (s : Rs) : NZ (oneD bs s) := by
  unfold oneD
  refine nz_bind (nz_num _ _ _) fun tag => ?_
  unfold bodyD
  refine nz_if (nz_bind (nz_num _ _ _) fun _ => nz_made _ _ _ _) ?_
  refine nz_if (nz_bind (nz_num _ _ _) fun _ => nz_made _ _ _ _) ?_
  refine nz_if (nz_bind (nz_big _ _ _) fun _ => nz_made _ _ _ _) ?_
  refine nz_if (nz_bind (nz_text _ _ _ _) fun _ => nz_made _ _ _ _) ?_
  refine nz_if (nz_bind (nz_num _ _ _) fun _ => nz_bind (nz_made _ _ _ _) fun _ => nz_ok _) ?_
  refine nz_if (nz_bind (nz_num _ _ _) fun _ => nz_if (nz_bad (by omega)) (nz_bind (nz_made _ _ _ _) fun _ => nz_ok _)) ?_
  refine nz_if (nz_made _ _ _ _) ?_
  refine nz_if (nz_bind (nz_num _ _ _) fun _ => nz_bind (nz_take _ _ _) fun _ => nz_if (nz_bad (by omega)) (nz_ok _)) ?_
  refine nz_if (nz_bind (nz_num _ _ _) fun _ => nz_if (nz_bad (by omega)) (nz_ok _)) ?_
  refine nz_if (nz_bind (nz_num _ _ _) fun _ => nz_bind (nz_take _ _ _) fun _ => nz_if (nz_bad (by omega)) (nz_made _ _ _ _)) ?_
  refine nz_if (nz_bind (nz_pid _ _ _) fun _ => nz_made _ _ _ _) ?_
  refine nz_if (nz_bind (nz_ref _ _ _) fun _ => nz_made _ _ _ _) ?_
  exact nz_bad (by omega)
theorem nz_kids (bs : List UInt8) : ∀ (f k : Nat) (c : Bool) (s : Rs) (e p : Nat), kidsD bs f k c s = some (.bad e p) → e ≠ 0
  | _, 0, _, _, _, _, h => by simp [kidsD] at h
  | 0, _ + 1, _, _, _, _, h => by simp [kidsD] at h
  | f + 1, k + 1, c, s, e, p, h => by
    rw [kidsD] at h
    cases h1 : oneD bs (push c k s) with
    | bad e' p' =>
      rw [h1] at h
      cases h
      exact nz_one _ _ _ _ h1
    | ok x =>
      obtain ⟨s1, k1, c1⟩ := x
      rw [h1] at h
      simp only at h
      cases h2 : kidsD bs f k1 c1 s1 with
      | none => rw [h2] at h; cases h
      | some y =>
        rw [h2] at h
        cases y with
        | bad e' p' =>
          cases h
          exact nz_kids bs f k1 c1 s1 _ _ h2
        | ok s2 => exact nz_kids bs f k c s2 e p h
theorem nz_dec (bs : List UInt8) : NZ (decD bs) := by
  intro e p h
  unfold decD at h
  split at h
  · cases h; omega
  split at h
  · cases h; omega
  split at h
  · split at h
    · cases h; omega
    · cases h
  · rename_i hk
    cases h
    exact nz_kids _ _ _ _ _ _ _ hk
  · rename_i hm hk
    obtain ⟨r, hr, _⟩ := kids_total bs (bs.length + 1) 1 false ⟨1, 0, []⟩ (by show _ ≤ 1 + (bs.length + 1); omega) (by
      show 1 ≤ bs.length
      omega)
    rw [hr] at hk
    cases hk

mutual
theorem wf_E : ∀ a : T, a.wf → ∀ c ∈ a.cells, c.E = 0
  | .leaf d, h, c, hc => by
    simp [T.cells] at hc
    subst hc
    exact h.1
  | .tup d ks, h, c, hc => by
    simp [T.cells] at hc
    rcases hc with rfl | hc
    · exact h.1
    · exact wfL_E ks h.2.2.2 c hc
  | .cons x y, h, c, hc => by
    simp [T.cells] at hc
    rcases hc with rfl | hc | hc
    · exact consC_E
    · exact wf_E x h.1 c hc
    · exact wf_E y h.2 c hc
theorem wfL_E : ∀ ks : List T, T.wfL ks → ∀ c ∈ T.cellsL ks, c.E = 0
  | [], _, c, hc => by simp [T.cellsL] at hc
  | k :: ks, h, c, hc => by
    simp [T.cellsL] at hc
    rcases hc with hc | hc
    · exact wf_E k h.1 c hc
    · exact wfL_E ks h.2 c hc
end
theorem text_le {c : Ce} (h : c.E = 0) : c.text.size ≤ 1024 := by
  obtain ⟨_, _, kt, _, _, _, _, k2, k8⟩ := cell_zero h
  rcases kt with e | e | e
  · have := (k2 e).1; omega
  · exact k8 e
  · rw [ba_nil e]
    show (0 : Nat) ≤ 1024
    omega
/-- What is read is right. -/
theorem dec_right {bs : List UInt8} {t : List Ce} (h : decD bs = .ok t) : rightT t = (0, 0) ∧ OkCes t := by
  obtain ⟨a, rfl, h2, h3, h4⟩ := dec_good h
  refine ⟨right_of h2 h4, fun c hc => h3 c hc, fun c hc => ?_⟩
  have := text_le (wf_E a h2 c hc)
  unfold maxLen
  omega
end Go.Proofs.YtkhjdcnlpablkaaDoor

/-! APPEND where what was there fills the reach. -/
namespace Go.Proofs.YtkhjdcnlpablkaaDoor
open Go.RowKit

/-- APPEND, whatever the slice; what growing asks for is a premise. -/
theorem run_append_room {P : Program} (w : World) (t ty e : TypeId) (i : TypeInfo) (z : Value) (size bytes : Nat) (ht : P.underlying t = some (.slice e)) (hi : P.info? e = some i) (hz : i.zero = some z)
    (hsize : i.size = size) (hby : i.bytes = bytes) (hzs : z.cells.size = size) (hsz : 0 < size)
    (v : Value) (n : Nat) (xs : List Value) (hs : Sl w e size v n xs)
    (a : Addr) (m c : Nat) (news : List Value) (hl : news.length = m * size) (hnews : ∀ j u, news[j]? = some u → w.cell? (a.add j) = some u) (h1 : ∀ u ∈ news, u.oneCell' = true)
    (h63 : n + m ≤ maxLen) (hnil : n = 0 → m * bytes ≤ 281474976710656) (hfit : ∀ old, n ≤ old → old < n + m → Builtin.nextslicecap (n + m) old * bytes ≤ 281474976710656) :
    ∃ v' w', (Builtin.append_ #[t, t] ty #[v, .slice (some a) m c]).run P w = .ok v' w' ∧ Sl w' e size v' (n + m) (xs ++ news) ∧ Fr (fun k => v.ownBlock = some k) w w' ∧
      (v'.ownBlock = v.ownBlock ∨ v'.ownBlock = some w.heap.size) := by
  subst hsize
  subst hby
  have hlen : (xs ++ news).length = (n + m) * i.size := by rw [List.length_append, hs.len, hl, Nat.add_mul]
  obtain ⟨ao, cap, rfl, h0, hnc, hcm, h3⟩ := hs
  have grown : ∀ (old : Nat), old < n + m →
      Sl (w.drew.alloc (.cells (xs.toArray ++ news.toArray ++ Builtin.zeroCells z.cells (grownCap w (n + m) old e - (n + m))) e)) e i.size (.slice (some ⟨w.heap.size, 0, none⟩) (n + m) (grownCap w (n + m) old e)) (n + m) (xs ++ news) := by
    intro old ho
    have hge := grownCap_ge w (n + m) old e
    have hcm : grownCap w (n + m) old e ≤ maxLen := grownCap_le_maxLen w (n + m) old e h63
    refine ⟨_, _, rfl, hlen, hge, hcm, .inr ⟨w.heap.size, 0, _, rfl, heap_alloc_new w.drew _, ?_, ?_⟩⟩
    · simp only [Array.size_append, List.size_toArray, size_zeroCells, hzs, h0, hl, ← Nat.add_mul, Nat.zero_add]
      apply Nat.mul_le_mul_right
      omega
    · simp only [Array.toList_append, List.append_assoc, List.drop_zero]
      rw [← List.append_assoc, ← hlen]
      exact List.take_left
  have frg : ∀ (o : Obj) (F : Nat → Prop), Fr F w (w.drew.alloc o) := fun o F => ((Fr.refl F w).drew).alloc o
  rcases h3 with ⟨rfl, rfl⟩ | ⟨g, off, cur, rfl, hg, hfit0, htake⟩
  · obtain rfl : n = 0 := by omega
    have hx : xs = [] := List.eq_nil_of_length_eq_zero (by simpa using h0)
    subst hx
    by_cases hm : m = 0
    · subst hm
      have hn : news = [] := List.eq_nil_of_length_eq_zero (by simpa using hl)
      subst hn
      refine ⟨.slice none 0 0, w, ?_, Sl.nil w e i.size, Fr.refl _ _, .inl rfl⟩
      simp [Builtin.append_, run_underlying ht, sizeOf, typeInfo, hi, Builtin.lenOf, Builtin.firstCells, loadCells, loadCellsFrom]
    · have hr := run_append_nil (P := P) w t ty e i z ht hi hz a m c news hl hnews (by omega) (by simp only [maxLen] at h63; omega) (hnil rfl)
      have hgr := grown 0 (by omega)
      simp only [Nat.zero_add, List.nil_append, Array.empty_append] at hgr ⊢
      exact ⟨_, _, hr, hgr, frg _ _, .inr rfl⟩
  · by_cases hroom : n + m ≤ cap
    · have hsp : (n + m) * i.size ≤ cap * i.size := Nat.mul_le_mul_right _ hroom
      rw [Nat.add_mul] at hsp
      have hf := run_firstCells_some (P := P) w i.size m a m c news hl hnews
      have hst := run_storeCells_at P g (off + n * i.size) e news 0 cur w hg (by simp only [Nat.add_zero]; omega) h1
      simp only [Nat.add_zero] at hst
      refine ⟨.slice (some ⟨g, off, none⟩) (n + m) cap, w.setRow g (cur.toList.take (off + n * i.size) ++ news ++ cur.toList.drop (off + n * i.size + news.length)).toArray, ?_, ⟨_, _, rfl, hlen, hroom, hcm, .inr ⟨g, off, _, rfl, setRow_heap w g cur _ e _ hg, ?_, ?_⟩⟩, ⟨rfl, rfl, rfl, by simp, fun k _ hk => setRow_other w g k _ (fun e => hk (by simp [Value.ownBlock, e]))⟩, .inl rfl⟩
      · simp [Builtin.append_, run_underlying ht, sizeOf, typeInfo, hi, Builtin.lenOf, hroom, hf, Addr.add_lit, hst]
      · simp only [List.size_toArray, List.length_append, List.length_take, List.length_drop, Array.length_toList]
        omega
      · simp only [List.append_assoc]
        rw [List.drop_append_of_le_length (by simp; omega)]
        have e1 : List.drop off (List.take (off + n * i.size) cur.toList) = xs := by
          rw [List.drop_take, show off + n * i.size - off = n * i.size by omega]; exact htake
        rw [e1, ← List.append_assoc, ← hlen]
        exact List.take_left
    · have holds : ∀ j u, xs[j]? = some u → w.cell? ((⟨g, off, none⟩ : Addr).add j) = some u := by
        intro j u hu
        have hj : j < n * i.size := by
          have := (List.getElem?_eq_some_iff.1 hu).1
          omega
        rw [Addr.add_lit, blk_cell hg, ← hu, ← htake, List.getElem?_take, if_pos hj, List.getElem?_drop]
        simp
      have hr := run_append_grow (P := P) w t ty e i z ht hi hz ⟨g, off, none⟩ n cap xs h0 holds a m c news hl hnews (by omega) (by simp only [maxLen] at h63; omega) (hfit cap (by omega) (by omega))
      exact ⟨_, _, hr, grown cap (by omega), frg _ _, .inr rfl⟩

/-- APPEND of one element to a slice that fills the reach. -/
theorem wpList_append_one {P : Program} {w : World} {ops : Array Oper} {rest : List Oper} {o : Oper} {a : Act} {Q : Exit → Act → World → Prop} (hgd : o.guard = none) (s x : Operand) (t : TypeId)
    (ho : o.op = .call { callee := .builtin .append, args := #[s, x], argTypes := #[t, t] })
    (e : TypeId) (i : TypeInfo) (z : Value) (size bytes : Nat) (ht : P.underlying t = some (.slice e)) (hi : P.info? e = some i) (hz : i.zero = some z)
    (hsize : i.size = size) (hby : i.bytes = bytes) (hzs : z.cells.size = size) (hsz : 0 < size)
    (v : Value) (n : Nat) (xs : List Value) (hs : a.eval s = v) (hown : Sl w e size v n xs)
    (ad : Addr) (c : Nat) (news : List Value) (hx : a.eval x = .slice (some ad) 1 c) (hl : news.length = 1 * size) (hnews : ∀ j u, news[j]? = some u → w.cell? (ad.add j) = some u) (h1 : ∀ u ∈ news, u.oneCell' = true)
    (h63 : n + 1 ≤ maxLen) (hbytes : n * bytes ≤ 140737488355328) (hb1 : bytes ≤ 1000)
    (h : ∀ v' w', Sl w' e size v' (n + 1) (xs ++ news) → Fr (fun k => v.ownBlock = some k) w w' → (v'.ownBlock = v.ownBlock ∨ v'.ownBlock = some w.heap.size) → wpList P ops Q rest (a.put o.dst v') w') : wpList P ops Q (o :: rest) a w := by
  refine wpList_plain hgd fun K hK => ?_
  obtain ⟨v', w', hr, h2, h3, h4⟩ := run_append_room (P := P) w t o.type e i z size bytes ht hi hz hsize hby hzs hsz v n xs hown ad 1 c news hl hnews h1 h63 (fun h => by omega) (fun old h1 h2 => by
    obtain rfl : old = n := by omega
    exact growslice_fits_succ hbytes (by omega))
  unfold Oper.wp execOp
  simp only [ho, resolve, invoke, builtin, Sem.run_bind, Sem.run_pure, Result.andThen_ok, List.map_toArray, List.map_cons, List.map_nil, hs, hx, hr]
  exact hK _ _ (h v' w' h2 h3 h4)
end Go.Proofs.YtkhjdcnlpablkaaDoor

/-! The document's bytes: numbers, texts, whole numbers. -/
namespace Go.Proofs.YtkhjdcnlpablkaaDoor
open Go.RowKit
open Go.Lib (byteCells)

/-- New memory holds the bytes. -/
def NewB (w : World) (l : List UInt8) (e : Ending) (w' : World) : Prop := ∃ v', e = .returned v' ∧ Bs w.heap.size w' v' l ∧ Below w.heap.size w w'

theorem Bs.new (w : World) (cs : List Value) (l : List UInt8) (m : Nat) (h : cs = byteCells l) (hm : l.length = m) (hl : m ≤ 1000000000) : Bs w.heap.size (w.alloc (.cells cs.toArray 5)) (.slice (some ⟨w.heap.size, 0, none⟩) m m) l := by
  subst h hm
  exact ⟨Sl.new w 5 _ _ (Lib.byteCells_length l) (by unfold maxLen; omega), fun k hk => by simp [Value.ownBlock] at hk; omega⟩
theorem NewB.of {w : World} {cs : List Value} {l : List UInt8} {m : Nat} (h : cs = byteCells l) (hm : l.length = m) (hl : m ≤ 1000000000) : NewB w l (.returned (.slice (some ⟨w.heap.size, 0, none⟩) m m)) (w.alloc (.cells cs.toArray 5)) :=
  ⟨_, rfl, Bs.new w cs l m h hm hl, (Below.refl _ _).alloc (Nat.le_refl _) _⟩

set_option maxRecDepth 100000 in
theorem four_any (n : Int) (w : World) : Calls Tryd.prog 40 #[.int .i64 n] w (NewB w (be4 n)) := by
  go_enter Tryd.func40, Tryd.ntmps40
  go_wp2_with fail
  go_ret
  exact NewB.of (cs := [_, _, _, _]) (bytes4 (n / 16777216) (n / 65536) (n / 256) n) rfl (by omega)
set_option maxRecDepth 100000 in
theorem two_any (n : Int) (w : World) : Calls Tryd.prog 85 #[.int .i64 n] w (NewB w (be2 n)) := by
  go_enter Tryd.func85, Tryd.ntmps85
  go_wp2_with fail
  go_ret
  exact NewB.of (cs := [_, _]) (bytes2 (n / 256) n) rfl (by omega)

/-- The bytes of a text, new. -/
theorem conv_str (w : World) (s : ByteArray) (hs : s.size ≤ maxLen) : ∃ cap W, (convert 9 22 (.string s)).run Tryd.prog w = .ok (.slice (some ⟨w.heap.size, 0, none⟩) s.size cap) W ∧ Rd W 1 (.slice (some ⟨w.heap.size, 0, none⟩) s.size cap) s.data.toList.length (byteCells s.data.toList) ∧ Below w.heap.size w W := by
  refine ⟨_, _, run_bytes_of_string w 9 22 5 s Tryd.underlying9 Tryd.underlying22 Tryd.underlying5, ?_, ?_⟩
  · have hl : s.data.toList.length = s.size := by simp
    rw [hl]
    refine ⟨_, _, rfl, by rw [Lib.byteCells_length]; omega, grownCap_ge _ _ _ _, grownCap_le_maxLen _ _ _ _ hs, (fun h => by cases h), fun _ => ⟨_, _, rfl, fun j hj => ?_⟩⟩
    have hb : (w.drew.alloc (.cells (bytesRow s (grownCap w s.size 0 5)) 5 ((bytesRow s (grownCap w s.size 0 5)).size, (bytesRow s (grownCap w s.size 0 5)).size + 1))).heap[w.heap.size]? = some (.cells (bytesRow s (grownCap w s.size 0 5)) 5 ((bytesRow s (grownCap w s.size 0 5)).size, (bytesRow s (grownCap w s.size 0 5)).size + 1)) := by
      show (w.heap.push _)[w.heap.size]? = _
      simp
    rw [Nat.zero_add]
    rw [Nat.mul_one] at hj
    have hj2 : j < s.data.size := hj
    have hc : (bytesRow s (grownCap w s.size 0 5))[j]? = (byteCells s.data.toList)[j]? := by
      simp [bytesRow, byteCells, Array.getElem?_append]
      intro h
      omega
    rw [← hc]
    unfold World.cell?
    simp only []
    rw [hb]
    rfl
  · exact (Below.refl _ w).drew.alloc (Nat.le_refl _) _

set_option maxRecDepth 100000 in
theorem ratom_any (s : ByteArray) (w : World) (hs : s.size ≤ 100000) : Calls Tryd.prog 73 #[.string s] w (NewB w (atomB s)) := by
  obtain ⟨W0, hW0⟩ : ∃ W0, w.alloc (.cells #[.int .u8 119, .int .u8 ((s.size : Int) % 256)] 5) = W0 := ⟨_, rfl⟩
  have hb0 : Bs w.heap.size W0 (.slice (some ⟨w.heap.size, 0, none⟩) 2 2) [119, b8 (s.size : Int)] := by
    rw [← hW0]
    exact Bs.new w [_, _] _ 2 (by simp [byteCells, b8_val]) rfl (by omega)
  have hbe0 : Below w.heap.size w W0 := by rw [← hW0]; exact (Below.refl _ _).alloc (Nat.le_refl _) _
  obtain ⟨cap, W1, hcv, hrd, hbe⟩ := conv_str W0 s (by unfold maxLen; omega)
  have hb1 := hb0.below hbe
  have hl : s.data.toList.length = s.size := by simp
  rw [hl] at hrd
  have HB1 := Lib.hid hb1
  have HRD := Lib.hid hrd
  have HBE := Lib.hid (hbe0.trans (hbe.mono hbe0.size))
  have hz := HBE.out.size
  have hz0 := hbe0.size
  obtain ⟨k0, hk0⟩ : ∃ k0, W0.heap.size = k0 := ⟨_, rfl⟩
  rw [hk0] at hcv HRD
  clear hb0 hbe0 hrd hbe hb1 hz0
  go_enter Tryd.func73, Tryd.ntmps73
  go_wp2_with (at_builtin; refine wpList_bytes_rd (.tmp 8) (.tmp 10) s.data.toList rfl rfl rfl rfl HB1.out (by rw [hl]; exact HRD.out) hz (by simp; omega) ?next)
  case next =>
    intro v2 w2 h2
    have H2 := Lib.hid h2
    clear h2
    go_wp2_with fail
    go_ret
    exact ⟨_, rfl, H2.out.bs, HBE.out.trans H2.out.bel⟩
/-! ### whole -/
theorem Bs.store1 {B : Nat} {w : World} {g off cap : Nat} {a b x : UInt8} {ys : List UInt8} {n : Nat} (h : Bs B w (.slice (some ⟨g, off, none⟩) n cap) (a :: b :: ys)) (hn : n = (a :: b :: ys).length) : Bs B (w.setCell ⟨g, off + 1, none⟩ (.int .u8 (x.toNat : Int))) (.slice (some ⟨g, off, none⟩) n cap) (a :: x :: ys) := by
  subst hn
  have := h.sl.store 1 (by simp) (.int .u8 (x.toNat : Int))
  exact ⟨this, h.own⟩

set_option maxHeartbeats 1600000 in
set_option maxRecDepth 100000 in
theorem whole_any (n : Int) (hn : -9223372036854775808 ≤ n ∧ n ≤ 9223372036854775807) (w : World) : Calls Tryd.prog 72 #[.int .i64 n] w (NewB w (intB n)) := by
  obtain ⟨hn1, hn2⟩ := hn
  by_cases hs : 0 ≤ n ∧ n < 256
  · have HF : Hid (intB n = [97, b8 n]) := Lib.hid (by unfold intB; rw [if_pos hs])
    obtain ⟨hs1, hs2⟩ := hs
    have q1 : decide (0 ≤ n) = true := decide_eq_true hs1
    have q2 : decide (n ≤ 255) = true := decide_eq_true (by omega)
    have q3 : n % 256 = n := by omega
    go_enter Tryd.func72, Tryd.ntmps72
    go_wp2_with fail
    go_ret
    rw [HF.out]
    exact NewB.of (cs := [_, _]) (by simp [byteCells, b8_val]; try omega) rfl (by omega)
  · by_cases hm : -2147483648 ≤ n ∧ n < 2147483648
    · have HF : Hid (intB n = 98 :: be4 n) := Lib.hid (by unfold intB; rw [if_neg hs, if_pos hm])
      obtain ⟨hm1, hm2⟩ := hm
      have hs' : n < 0 ∨ 256 ≤ n := by omega
      have q3 : decide (-2147483648 ≤ n) = true := decide_eq_true hm1
      have q4 : decide (n < 2147483648) = true := decide_eq_true hm2
      have hb0 : Bs w.heap.size (w.alloc (.cells #[.int .u8 98] 5)) (.slice (some ⟨w.heap.size, 0, none⟩) 1 1) [98] := Bs.new w [.int .u8 98] [98] 1 rfl rfl (by omega)
      have hbe0 : Below w.heap.size w (w.alloc (.cells #[.int .u8 98] 5)) := (Below.refl _ _).alloc (Nat.le_refl _) _
      have HB0 := Lib.hid hb0
      have HBE0 := Lib.hid hbe0
      have H40 := Lib.hid (four_any n (w.alloc (.cells #[.int .u8 98] 5)))
      clear hs hb0 hbe0
      rcases hs' with hs | hs
      · have q1 : decide (0 ≤ n) = false := decide_eq_false (by omega)
        go_enter Tryd.func72, Tryd.ntmps72
        go_wp2_with fail
        refine (H40.out).mono ?_
        rintro e w1 ⟨v1, rfl, hb1, hbe1⟩
        have HB1 := Lib.hid hb1
        have HB0' := Lib.hid (HB0.out.below hbe1)
        have HBE1 := Lib.hid (HBE0.out.trans (hbe1.mono HBE0.out.size))
        have hz := HBE1.out.size
        clear hb1 hbe1
        go_wp2_with (at_builtin; refine wpList_bytes_rd (.tmp 23) (.tmp 25) (be4 n) rfl rfl rfl rfl HB0'.out HB1.out.sl.rd hz (by simp [be4]) ?next)
        case next =>
          intro v2 w2 h2
          have H2 := Lib.hid h2
          clear h2
          go_wp2_with fail
          go_ret
          exact ⟨_, rfl, by rw [HF.out]; exact H2.out.bs, HBE1.out.trans H2.out.bel⟩
      · have q1 : decide (0 ≤ n) = true := decide_eq_true (by omega)
        have q2 : decide (n ≤ 255) = false := decide_eq_false (by omega)
        go_enter Tryd.func72, Tryd.ntmps72
        go_wp2_with fail
        refine (H40.out).mono ?_
        rintro e w1 ⟨v1, rfl, hb1, hbe1⟩
        have HB1 := Lib.hid hb1
        have HB0' := Lib.hid (HB0.out.below hbe1)
        have HBE1 := Lib.hid (HBE0.out.trans (hbe1.mono HBE0.out.size))
        have hz := HBE1.out.size
        clear hb1 hbe1
        go_wp2_with (at_builtin; refine wpList_bytes_rd (.tmp 23) (.tmp 25) (be4 n) rfl rfl rfl rfl HB0'.out HB1.out.sl.rd hz (by simp [be4]) ?next)
        case next =>
          intro v2 w2 h2
          have H2 := Lib.hid h2
          clear h2
          go_wp2_with fail
          go_ret
          exact ⟨_, rfl, by rw [HF.out]; exact H2.out.bs, HBE1.out.trans H2.out.bel⟩
    · have HF : Hid (intB n = [110, b8 ((leL n.natAbs).length : Int), if n < 0 then 1 else 0] ++ leL n.natAbs) := Lib.hid (by unfold intB; rw [if_neg hs, if_neg hm])
      rcases (show n < -2147483648 ∨ 2147483648 ≤ n by omega) with hs' | hs'
      · have q1 : decide (0 ≤ n) = false := decide_eq_false (by omega)
        have q3 : decide (-2147483648 ≤ n) = false := decide_eq_false (by omega)
        have q5 : decide (n < 0) = true := decide_eq_true (by omega)
        obtain ⟨m, hm0⟩ : ∃ m, n.natAbs = m := ⟨_, rfl⟩
        have hw : IntKind.u64.wrap (-IntKind.u64.wrap n) = (m : Int) := by rw [IntKind.wrap_u64, IntKind.wrap_u64]; omega
        have hm1 : m ≤ 9223372036854775808 := by omega
        rw [if_pos (by omega), hm0] at HF
        clear hm0 hs hm
        have hb0 : Bs w.heap.size (w.alloc (.cells #[.int .u8 110, .int .u8 0, .int .u8 1] 5)) (.slice (some ⟨w.heap.size, 0, none⟩) 3 3) [110, 0, 1] := Bs.new w [.int .u8 110, .int .u8 0, .int .u8 1] [110, 0, 1] 3 rfl rfl (by omega)
        have hbe0 : Below w.heap.size w (w.alloc (.cells #[.int .u8 110, .int .u8 0, .int .u8 1] 5)) := (Below.refl _ _).alloc (Nat.le_refl _) _
        have HB0 := Lib.hid hb0
        have HBE0 := Lib.hid hbe0
        clear hb0 hbe0
        go_enter Tryd.func72, Tryd.ntmps72
        go_wp2_with fail
        go_loopg [4, 6] 8 (fun g s4 s6 wr => ∃ (mm : Nat) (ys : List UInt8), s4 = .int .u64 mm ∧ ys.length + g = 8 ∧ mm < 256 ^ g ∧ Bs w.heap.size wr s6 (110 :: 0 :: 1 :: ys) ∧ Below w.heap.size w wr ∧ Hid (leL m = ys ++ leN g mm))
        case atStart => exact ⟨m, [], rfl, rfl, by omega, HB0.out, HBE0.out, Lib.hid rfl⟩
        case round =>
          obtain ⟨mm, ys, rfl, hg, hlt, hd, hbe, hI⟩ := hrel
          have hz := hbe.size
          by_cases hmm : mm = 0
          · subst hmm
            have HL : Hid (leL m = ys) := Lib.hid (by rw [hI.out]; cases gk <;> simp [leN])
            obtain ⟨g0, off, cap, cur, hv, hc1, hc2, _⟩ := hd.sl.blk (by simp)
            subst hv
            have d1 := hd.sl.cell 1 (by simp)
            rw [show (byteCells (110 :: 0 :: 1 :: ys))[1]? = some (.int .u8 0) from rfl] at d1
            have d2 := hd.sl.free (off + 1)
            have hg0 := hd.own g0 rfl
            have hb8 := b8_val (ys.length : Int)
            have HD := Lib.hid hd
            have HBE := Lib.hid hbe
            have hy : ys.length ≤ 8 := by omega
            have hlen : (110 :: 0 :: 1 :: ys).length = ys.length + 3 := rfl
            rw [hlen] at hc1 ⊢
            unfold maxLen at hc2
            clear hI hd hbe hlt hg
            go_wp2_with fail
            go_ret
            refine ⟨_, rfl, ?_, ?_⟩
            · rw [HF.out, HL.out]
              have := HD.out.store1 (x := b8 (ys.length : Int)) hlen.symm
              rw [hb8, show (ys.length : Int) % 256 = (ys.length : Int) by omega] at this
              exact this
            · exact HBE.out.trans (((Fr.refl (fun k => k = g0) _).setCell (p := ⟨g0, off + 1, none⟩) (.inl rfl) _).below hz (fun k hk => by subst hk; exact hg0))
          · obtain ⟨g, rfl⟩ : ∃ g, gk = g + 1 := by
              cases gk with
              | zero => simp at hlt; omega
              | succ g => exact ⟨g, rfl⟩
            have HI2 : Hid (leL m = (ys ++ [b8 (mm : Int)]) ++ leN g (mm / 256)) := Lib.hid (by rw [hI.out]; simp only [leN]; rw [if_neg hmm]; simp)
            have hlt2 : mm / 256 < 256 ^ g := by rw [Nat.pow_succ] at hlt; omega
            have HLT := Lib.hid hlt2
            have q6 : decide ((0 : Int) < (mm : Int)) = true := decide_eq_true (by omega)
            have q7 : decide (0 < mm) = true := decide_eq_true (by omega)
            have HD := Lib.hid hd
            have HBE := Lib.hid hbe
            clear hI hlt hlt2 hd hbe hmm
            go_wp2_with (at_builtin; refine wpList_bytes (.tmp 37) (.tmp 40) [b8 (mm : Int)] _ 1 rfl rfl rfl rfl HD.out (bytes1 _) rfl (by omega) (by simp; omega) ?next)
            case next =>
              intro v2 w2 h1
              have HB2 := Lib.hid (HBE.out.trans h1.bel)
              have H1 := Lib.hid h1.bs
              clear h1
              go_wp2_with fail
              go_roundg g
              case measure => omega
              case rel => exact ⟨mm / 256, ys ++ [b8 (mm : Int)], by first | rfl | simp, by simp; omega, HLT.out, H1.out, HB2.out, HI2⟩
      · have q1 : decide (0 ≤ n) = true := decide_eq_true (by omega)
        have q2 : decide (n ≤ 255) = false := decide_eq_false (by omega)
        have q3 : decide (-2147483648 ≤ n) = true := decide_eq_true (by omega)
        have q4 : decide (n < 2147483648) = false := decide_eq_false (by omega)
        have q5 : decide (n < 0) = false := decide_eq_false (by omega)
        obtain ⟨m, rfl⟩ : ∃ m : Nat, n = (m : Int) := ⟨n.toNat, by omega⟩
        have hm1 : m ≤ 9223372036854775808 := by omega
        rw [if_neg (by omega), show (m : Int).natAbs = m by simp] at HF
        clear hs hm
        have hb0 : Bs w.heap.size (w.alloc (.cells #[.int .u8 110, .int .u8 0, .int .u8 0] 5)) (.slice (some ⟨w.heap.size, 0, none⟩) 3 3) [110, 0, 0] := Bs.new w [.int .u8 110, .int .u8 0, .int .u8 0] [110, 0, 0] 3 rfl rfl (by omega)
        have hbe0 : Below w.heap.size w (w.alloc (.cells #[.int .u8 110, .int .u8 0, .int .u8 0] 5)) := (Below.refl _ _).alloc (Nat.le_refl _) _
        have HB0 := Lib.hid hb0
        have HBE0 := Lib.hid hbe0
        clear hb0 hbe0
        go_enter Tryd.func72, Tryd.ntmps72
        go_wp2_with fail
        go_loopg [4, 6] 8 (fun g s4 s6 wr => ∃ (mm : Nat) (ys : List UInt8), s4 = .int .u64 mm ∧ ys.length + g = 8 ∧ mm < 256 ^ g ∧ Bs w.heap.size wr s6 (110 :: 0 :: 0 :: ys) ∧ Below w.heap.size w wr ∧ Hid (leL m = ys ++ leN g mm))
        case atStart => exact ⟨m, [], rfl, rfl, by omega, HB0.out, HBE0.out, Lib.hid rfl⟩
        case round =>
          obtain ⟨mm, ys, rfl, hg, hlt, hd, hbe, hI⟩ := hrel
          have hz := hbe.size
          by_cases hmm : mm = 0
          · subst hmm
            have HL : Hid (leL m = ys) := Lib.hid (by rw [hI.out]; cases gk <;> simp [leN])
            obtain ⟨g0, off, cap, cur, hv, hc1, hc2, _⟩ := hd.sl.blk (by simp)
            subst hv
            have d1 := hd.sl.cell 1 (by simp)
            rw [show (byteCells (110 :: 0 :: 0 :: ys))[1]? = some (.int .u8 0) from rfl] at d1
            have d2 := hd.sl.free (off + 1)
            have hg0 := hd.own g0 rfl
            have hb8 := b8_val (ys.length : Int)
            have HD := Lib.hid hd
            have HBE := Lib.hid hbe
            have hy : ys.length ≤ 8 := by omega
            have hlen : (110 :: 0 :: 0 :: ys).length = ys.length + 3 := rfl
            rw [hlen] at hc1 ⊢
            unfold maxLen at hc2
            clear hI hd hbe hlt hg
            go_wp2_with fail
            go_ret
            refine ⟨_, rfl, ?_, ?_⟩
            · rw [HF.out, HL.out]
              have := HD.out.store1 (x := b8 (ys.length : Int)) hlen.symm
              rw [hb8, show (ys.length : Int) % 256 = (ys.length : Int) by omega] at this
              exact this
            · exact HBE.out.trans (((Fr.refl (fun k => k = g0) _).setCell (p := ⟨g0, off + 1, none⟩) (.inl rfl) _).below hz (fun k hk => by subst hk; exact hg0))
          · obtain ⟨g, rfl⟩ : ∃ g, gk = g + 1 := by
              cases gk with
              | zero => simp at hlt; omega
              | succ g => exact ⟨g, rfl⟩
            have HI2 : Hid (leL m = (ys ++ [b8 (mm : Int)]) ++ leN g (mm / 256)) := Lib.hid (by rw [hI.out]; simp only [leN]; rw [if_neg hmm]; simp)
            have hlt2 : mm / 256 < 256 ^ g := by rw [Nat.pow_succ] at hlt; omega
            have HLT := Lib.hid hlt2
            have q6 : decide ((0 : Int) < (mm : Int)) = true := decide_eq_true (by omega)
            have q7 : decide (0 < mm) = true := decide_eq_true (by omega)
            have HD := Lib.hid hd
            have HBE := Lib.hid hbe
            clear hI hlt hlt2 hd hbe hmm
            go_wp2_with (at_builtin; refine wpList_bytes (.tmp 37) (.tmp 40) [b8 (mm : Int)] _ 1 rfl rfl rfl rfl HD.out (bytes1 _) rfl (by omega) (by simp; omega) ?next)
            case next =>
              intro v2 w2 h1
              have HB2 := Lib.hid (HBE.out.trans h1.bel)
              have H1 := Lib.hid h1.bs
              clear h1
              go_wp2_with fail
              go_roundg g
              case measure => omega
              case rel => exact ⟨mm / 256, ys ++ [b8 (mm : Int)], by first | rfl | simp, by simp; omega, HLT.out, H1.out, HB2.out, HI2⟩
end Go.Proofs.YtkhjdcnlpablkaaDoor

/-! The document's run and short: where the elements of a list begin; are all bytes? -/
namespace Go.Proofs.YtkhjdcnlpablkaaDoor
open Go.RowKit
open Go.Lib (byteCells)

theorem Tryd.info3 : (Tryd.prog.info? 3).map (fun i => (i.zero, i.size, i.bytes)) = some (some (.int .i64 0), 1, 8) := by kernel_rfl

/-- Where the elements begin. -/
def plcs : T → Nat → List Nat
  | .cons h t, k => (k + 1) :: plcs t (k + 1 + h.sz)
  | .leaf _, _ => []
  | .tup _ _, _ => []
def nats (l : List Nat) : List Value := l.map fun (k : Nat) => Value.int .i64 (k : Int)
theorem nats_app (a b : List Nat) : nats (a ++ b) = nats a ++ nats b := by unfold nats; rw [List.map_append]
theorem nats_len (a : List Nat) : (nats a).length = a.length := by unfold nats; simp
theorem nats_one (l : List Nat) : ∀ u ∈ nats l, u.oneCell' = true := by
  intro u hu
  obtain ⟨k, _, rfl⟩ := List.mem_map.1 hu
  rfl
theorem plcs_len (a : T) : ∀ k, (plcs a k).length = runLen a := by
  induction a using T.byTail with
  | hl c => intro k; rfl
  | ht c ks => intro k; rfl
  | hc h t ih => intro k; simp only [plcs, runLen, List.length_cons, ih]

set_option maxHeartbeats 3200000 in
set_option maxRecDepth 100000 in
theorem rrun_any (t : List Ce) (v : Value) (hlen : t.length ≤ 1024) (at' : Nat) (a : T) (r : List Ce) (hw : a.wf) (hd : t.drop at' = a.cells ++ r) (w : World) (hrd : Rd w 3 v t.length (cvs t)) :
    Calls Tryd.prog 83 #[v, .int .i64 at'] w fun e w' => ∃ v', e = .returned (.tuple #[v', .int .i64 ((at' + spLen a : Nat) : Int)]) ∧ Sl w' 3 1 v' (runLen a) (nats (plcs a at')) ∧ Below w.heap.size w w' := by
  obtain ⟨i0, hinf, hz0, hz1, hz2⟩ := info_parts Tryd.info3
  obtain ⟨ao, cap, rfl, hcap, hmax⟩ := hrd.shape
  have HR := Lib.hid hrd
  unfold maxLen at hmax
  clear hrd
  have HD := Lib.hid hd
  have hal : at' + a.sz ≤ t.length := by
    have := congrArg List.length hd
    rw [List.length_drop, List.length_append] at this
    have h1 := sz_pos a
    unfold T.sz at *
    omega
  have ha : a.sz ≤ 1024 := by omega
  clear hd
  go_enter Tryd.func83, Tryd.ntmps83
  go_wp2_with fail
  go_loopg [1, 6] a.sz (fun g s1 s6 wr => ∃ (k n : Nat) (ps : List Nat) (x : T), s1 = .int .i64 k ∧ Sl wr 3 1 s6 n (nats ps) ∧ (∀ q, s6.ownBlock = some q → w.heap.size ≤ q) ∧ x.sz ≤ g ∧ k + x.sz ≤ t.length ∧ n ≤ 1024 ∧ n + x.sz ≤ a.sz ∧ Below w.heap.size w wr ∧
    Hid (x.wf ∧ t.drop k = x.cells ++ r ∧ n + runLen x = runLen a ∧ k + spLen x = at' + spLen a ∧ plcs a at' = ps ++ plcs x k))
  case atStart => exact ⟨at', 0, [], a, rfl, Sl.nil _ _ _, (fun q hq => by simp [Value.ownBlock] at hq), Nat.le_refl _, hal, by omega, by omega, Below.refl _ _, Lib.hid ⟨hw, HD.out, by omega, rfl, rfl⟩⟩
  case round =>
    clear hal HD
    obtain ⟨k, n, ps, x, rfl, hsl, hown, hg, hkx, hn, hnx, hbe, hI⟩ := hrel
    obtain ⟨hxw, hxd, hx1, hx2, hx3⟩ := hI.out
    have hxp := sz_pos x
    have hrd := HR.out.below (Nat.le_refl _) hbe
    obtain ⟨g0, off, cap', hv, hq1, hq2, hq3⟩ := hrd.at (by omega)
    clear hq1 hq2 hq3
    simp at hv
    obtain ⟨rfl, rfl⟩ := hv
    obtain ⟨c0, c1, c2⟩ := rd_cell hrd rfl (drop_fst hxd)
    have hkt : k < t.length := by omega
    have hkz : (k : Int) < (t.length : Int) := by omega
    have hbz := hbe.size
    by_cases h7 : x.fst.kind = 7
    · obtain ⟨h, y, rfl⟩ := (fst_seven hxw).1 h7
      have hdh : t.drop (k + 1) = h.cells ++ (y.cells ++ r) := by
        have := drop_next (m := 1) (a := [consC]) (r := h.cells ++ (y.cells ++ r)) (by rw [hxd]; simp [T.cells]) rfl
        exact this
      have hsz := sz_cons h y
      have hp1 := sz_pos h
      have hp2 := sz_pos y
      have he := end_term hxw.1 hdh
      have hdy : t.drop (k + 1 + h.sz) = y.cells ++ r := drop_next hdh rfl
      have HIN : Hid (y.wf ∧ t.drop (k + 1 + h.sz) = y.cells ++ r ∧ (n + 1) + runLen y = runLen a ∧ (k + 1 + h.sz) + spLen y = at' + spLen a ∧ plcs a at' = (ps ++ [k + 1]) ++ plcs y (k + 1 + h.sz)) := Lib.hid ⟨hxw.2, hdy, by simp only [runLen] at hx1; omega, by simp only [spLen] at hx2; omega, by rw [hx3]; simp only [plcs, List.append_assoc, List.cons_append, List.nil_append]⟩
      have H75 : Hid (∀ W, Below w.heap.size w W → Calls Tryd.prog 75 #[.slice (some ⟨g0, off, none⟩) t.length cap, .int .i64 ((k : Int) + 1)] W fun e w' => e = .returned (.tuple #[.int .i64 ((k + 1 + h.sz : Nat) : Int), .int .i64 0]) ∧ Below W.heap.size W w') := Lib.hid (fun W hW => by
        have := rend_t t (.slice (some ⟨g0, off, none⟩) t.length cap) (k + 1) hlen W (HR.out.below (Nat.le_refl _) hW)
        rw [he] at this
        exact this)
      have hc7 : wr.cell? ⟨g0, off + k * 3, none⟩ = some (.int .i64 7) := c0
      have HSL := Lib.hid hsl
      have HOWN := Lib.hid hown
      have HBE := Lib.hid hbe
      have hnl : (nats ps).length = n := by have := hsl.len; omega
      have HLT := Lib.hid (⟨hg, hkx, hn, hnx, hsz, hp1, hp2⟩ : (T.cons h y).sz ≤ gk ∧ k + (T.cons h y).sz ≤ t.length ∧ n ≤ 1024 ∧ n + (T.cons h y).sz ≤ a.sz ∧ (T.cons h y).sz = 1 + h.sz + y.sz ∧ 1 ≤ h.sz ∧ 1 ≤ y.sz)
      have hk1 : (k : Int) + 1 ≤ 1024 := by omega
      obtain ⟨aos, caps, rfl, _, _⟩ := hsl.shape
      clear hI hxw hxd hx1 hx2 hx3 hrd c0 c1 c2 h7 hdh he hdy hsl hown hbe hxp hsz hg hkx hnx hn hp1 hp2
      go_wp2_with (at_builtin; refine wpList_append_sl rfl (.tmp 13) (.tmp 16) 99 rfl 3 i0 (.int .i64 0) 1 8 Tryd.underlying99 hinf hz0 hz1 hz2 rfl (by decide) _ n (nats ps) rfl (HSL.out.alloc _) ⟨wr.heap.size, 0, none⟩ 1 1 (nats [k + 1]) rfl rfl (cells_new wr (nats [k + 1]) 3) (nats_one _) (by have := HLT.out; unfold maxLen; omega) (by have := HLT.out; omega) ?next)
      case next =>
        intro v2 w2 h2 hf2 hv2
        obtain ⟨ao2, cap2, rfl, hc2, hm2⟩ := h2.shape
        have hF : Fr (fun q => Value.ownBlock (.slice aos n caps) = some q) wr w2 := ((Fr.refl _ wr).alloc _).trans hf2
        have hbe2 : Below w.heap.size w w2 := HBE.out.trans (hF.below hbz HOWN.out)
        have H1 := Lib.hid (H75.out w2 hbe2)
        have HBE2 := Lib.hid hbe2
        have HSL2 : Hid (Sl w2 3 1 (.slice ao2 (n + 1) cap2) (n + 1) (nats (ps ++ [k + 1]))) := Lib.hid (by rw [nats_app]; exact h2)
        have HOWN2 : Hid (∀ q, Value.ownBlock (.slice ao2 (n + 1) cap2) = some q → w.heap.size ≤ q) := Lib.hid (fun q hq => by
          rcases hv2 with e | e
          · exact HOWN.out q (e ▸ hq)
          · rw [e] at hq; simp at hq; omega)
        clear h2 hf2 hv2 hF hbe2 HSL HOWN HBE H75
        go_wp2_with fail
        refine (H1.out).mono ?_
        rintro e w3 ⟨rfl, hbe3⟩
        have HSL3 := Lib.hid (HSL2.out.keep fun q hq => hbe3.block q (HSL2.out.lt q hq))
        have HBE3 := Lib.hid (HBE2.out.trans (hbe3.mono HBE2.out.size))
        clear hbe3 HSL2 HBE2 H1
        go_wp2_with fail
        go_roundg (gk - 1)
        case measure => have := HLT.out; omega
        case rel => exact ⟨k + 1 + h.sz, n + 1, ps ++ [k + 1], y, rfl, HSL3.out, HOWN2.out, by have := HLT.out; omega, by have := HLT.out; omega, by have := HLT.out; omega, by have := HLT.out; omega, HBE3.out, HIN⟩
    · have hnc : runLen x = 0 ∧ spLen x = 0 ∧ plcs x k = [] := by
        cases x with
        | leaf c => exact ⟨rfl, rfl, rfl⟩
        | tup c ks => exact ⟨rfl, rfl, rfl⟩
        | cons h y => exact (h7 ((fst_seven hxw).2 ⟨_, _, rfl⟩)).elim
      have hkq : k = at' + spLen a := by omega
      have hnq : n = runLen a := by omega
      have hpq : plcs a at' = ps := by rw [hx3, hnc.2.2, List.append_nil]
      have q7 : (x.fst.kind == 7) = false := by simp; omega
      have HSL : Hid (Sl wr 3 1 u6 (runLen a) (nats (plcs a at'))) := Lib.hid (by rw [hpq, ← hnq]; exact hsl)
      obtain ⟨kd, hkd⟩ : ∃ kd, x.fst.kind = kd := ⟨_, rfl⟩
      rw [hkd] at c0 q7
      have HBE := Lib.hid hbe
      subst hkq
      clear hI hxw hxd hx1 hx2 hx3 hrd c1 c2 h7 hnc hpq hsl hown hbe hkd
      go_wp2_with fail
      go_ret2
      exact ⟨_, rfl, HSL.out, HBE.out⟩
end Go.Proofs.YtkhjdcnlpablkaaDoor

/-! The document's short: are all heads bytes, and does the list end in nil? -/
namespace Go.Proofs.YtkhjdcnlpablkaaDoor
open Go.RowKit
open Go.Lib (byteCells)

theorem nats_at {l : List Nat} {i k : Nat} (h : l[i]? = some k) : (nats l)[i]? = some (.int .i64 (k : Int)) := by unfold nats; rw [List.getElem?_map, h]; rfl
/-- The tail stands at its place. -/
theorem tail_at (t : List Ce) (a : T) : ∀ (k : Nat) (r : List Ce), t.drop k = a.cells ++ r → t.drop (k + spLen a) = (tailT a).cells ++ r := by
  induction a using T.byTail with
  | hl c => intro k r h; exact h
  | ht c ks => intro k r h; exact h
  | hc h y ih =>
    intro k r hd
    have h1 := drop_next (m := 1 + h.sz) (a := consC :: h.cells) (r := y.cells ++ r) (by rw [hd]; simp [T.cells]) (by simp [T.sz]; omega)
    have := ih _ _ h1
    simp only [spLen, tailT]
    rw [← this]
    congr 1
    omega
theorem tailn_nil {a : T} (h : (tailT a).wf) : isNil (tailT a) = decide ((tailT a).fst.kind = 6) := by
  have hnc : ∀ p q, tailT a ≠ .cons p q := by
    induction a using T.byTail with
    | hl c => intro p q e; cases e
    | ht c ks => intro p q e; cases e
    | hc x y ih => exact ih h
  cases hx : tailT a with
  | leaf c => rfl
  | tup c ks =>
    rw [hx] at h
    refine (decide_eq_false (fun e => ?_)).symm
    have h5 := h.2.1
    have h6 : c.kind = 6 := e
    omega
  | cons p q => exact (hnc p q hx).elim

set_option maxHeartbeats 3200000 in
set_option maxRecDepth 100000 in
theorem short_any (t : List Ce) (v pv : Value) (hlen : t.length ≤ 1024) (at' : Nat) (a : T) (r : List Ce) (hw : a.wf) (hd : t.drop at' = a.cells ++ r) (w : World) (hrd : Rd w 3 v t.length (cvs t)) (hp : Rd w 1 pv (runLen a) (nats (plcs a at'))) :
    Calls Tryd.prog 84 #[v, pv, .int .i64 ((at' + spLen a : Nat) : Int)] w fun e w' => e = .returned (.bool (charsOk a)) ∧ Below w.heap.size w w' := by
  obtain ⟨ao, cap, rfl, hcap, hmax⟩ := hrd.shape
  obtain ⟨aop, capp, rfl, hcapp, hmaxp⟩ := hp.shape
  have hrl := (run_le a).1
  have hal : at' + a.sz ≤ t.length := by
    have := congrArg List.length hd
    rw [List.length_drop, List.length_append] at this
    have h1 := sz_pos a
    unfold T.sz at *
    omega
  have htl := tail_at t a at' r hd
  have hsp := (run_le a).2
  have htw := tail_wf hw
  have htp := sz_pos (tailT a)
  have htn := tailn_nil htw
  obtain ⟨g0, off, cap', hv, hq1, hq2, hq3⟩ := hrd.at (by omega)
  clear hq1 hq2 hq3
  simp at hv
  obtain ⟨rfl, rfl⟩ := hv
  obtain ⟨c0, c1, c2⟩ := rd_cell hrd rfl (drop_fst htl)
  have HR := Lib.hid hrd
  have HP := Lib.hid hp
  have HD := Lib.hid hd
  obtain ⟨tk, htk⟩ : ∃ tk, at' + spLen a = tk := ⟨_, rfl⟩
  rw [htk] at c0 c1 c2 ⊢
  have htkl : tk < t.length := by omega
  have htkz : (tk : Int) < (t.length : Int) := by omega
  have hN : runLen a ≤ 1024 := by omega
  have HN := Lib.hid hN
  have HPL := Lib.hid (plcs_len a at')
  obtain ⟨kd, hkd⟩ : ∃ kd, (tailT a).fst.kind = kd := ⟨_, rfl⟩
  rw [hkd] at c0 htn
  unfold maxLen at hmax hmaxp
  by_cases h6 : kd = 6
  · have HC : Hid (charsOk a = allB a) := Lib.hid (by unfold charsOk; rw [htn, decide_eq_true h6, decide_eq_true (by omega)]; simp)
    have q1 : (kd == 6) = true := by simp; omega
    have q2 : (kd != 6) = false := by simp; omega
    obtain ⟨n, hn⟩ : ∃ n, runLen a = n := ⟨_, rfl⟩
    rw [hn] at HP HPL HN hN hcapp ⊢
    have hn65 : decide ((65535 : Int) < (n : Int)) = false := decide_eq_false (by omega)
    clear hrd hp hd hrl htl hsp htw htp htn h6 hkd htk c1 c2 hn
    go_enter Tryd.func84, Tryd.ntmps84
    go_wp2_with fail
    clear c0
    go_loopg [22] n (fun g s22 wr => ∃ (k q : Nat) (x : T) (ps : List Nat), s22 = .int .i64 k ∧ k + g = n ∧ q + x.sz ≤ t.length ∧ Below w.heap.size w wr ∧ Hid (x.wf ∧ t.drop q = x.cells ++ r ∧ runLen x = g ∧ plcs a at' = ps ++ plcs x q ∧ ps.length = k ∧ allB x = allB a))
    case atStart => exact ⟨0, at', a, [], rfl, by omega, hal, Below.refl _ _, Lib.hid ⟨hw, HD.out, by have := HPL.out; rw [plcs_len] at this; omega, rfl, rfl, rfl⟩⟩
    case round =>
      obtain ⟨k, q, x, ps, rfl, hkg, hqx, hbe, hI⟩ := hrel
      obtain ⟨hxw, hxd, hx1, hx2, hx3, hx4⟩ := hI.out
      cases gk with
      | zero =>
        obtain rfl : k = n := by omega
        have hT : Hid (charsOk a = true) := Lib.hid (by
          rw [HC.out, ← hx4]
          cases x with
          | leaf c => rfl
          | tup c ks => rfl
          | cons h y => simp [runLen] at hx1)
        clear hI hxw hxd hx1 hx2 hx3 hx4 hqx
        go_wp2_with fail
        go_ret
        exact ⟨by rw [hT.out]; rfl, hbe⟩
      | succ g =>
        cases x with
        | leaf c => simp [runLen] at hx1
        | tup c ks => simp [runLen] at hx1
        | cons h y =>
          have hdh : t.drop (q + 1) = h.cells ++ (y.cells ++ r) := by
            have := drop_next (m := 1) (a := [consC]) (r := h.cells ++ (y.cells ++ r)) (by rw [hxd]; simp [T.cells]) rfl
            exact this
          have hdy : t.drop (q + 1 + h.sz) = y.cells ++ r := drop_next hdh rfl
          have hsz := sz_cons h y
          have hp1 := sz_pos h
          have hp2 := sz_pos y
          have hrd := HR.out.below (Nat.le_refl _) hbe
          have hpr := HP.out.below (Nat.le_refl _) hbe
          obtain ⟨d0, d1, d2⟩ := rd_cell hrd rfl (drop_fst hdh)
          obtain ⟨gp, op, capq, hvp, hq1, hq2, hq3⟩ := hpr.at (by omega)
          simp at hvp
          obtain ⟨rfl, rfl⟩ := hvp
          have e0 := hq3 k (by omega)
          rw [nats_at (k := q + 1) (by rw [hx2, List.getElem?_append_right (by omega), hx3, Nat.sub_self]; rfl)] at e0
          have hby := isByte_fst hxw.1
          have hIN : Hid (y.wf ∧ t.drop (q + 1 + h.sz) = y.cells ++ r ∧ runLen y = g ∧ plcs a at' = (ps ++ [q + 1]) ++ plcs y (q + 1 + h.sz) ∧ (ps ++ [q + 1]).length = k + 1) := Lib.hid ⟨hxw.2, hdy, by simp only [runLen] at hx1; omega, by rw [hx2]; simp only [plcs, List.append_assoc, List.cons_append, List.nil_append], by simp [hx3]⟩
          have hAB : allB a = (isByte h && allB y) := by rw [← hx4]; rfl
          obtain ⟨f, hf⟩ : ∃ f, h.fst = f := ⟨_, rfl⟩
          rw [hf] at d0 d1 d2 hby
          have hqt : q + 1 < t.length := by omega
          have hqz : (q : Int) + 1 < (t.length : Int) := by omega
          have hkn : k < n := by omega
          have hkz : (k : Int) < (n : Int) := by omega
          have HBE := Lib.hid hbe
          have HSZ := Lib.hid (⟨hqx, hsz, hkg⟩ : q + (T.cons h y).sz ≤ t.length ∧ (T.cons h y).sz = 1 + h.sz + y.sz ∧ k + (g + 1) = n)
          clear hI hxw hxd hx1 hx2 hx3 hx4 hdh hdy hrd hpr hq1 hq2 hq3 hf hbe hqx hsz
          by_cases b1 : f.kind = 1
          · have w1 : (f.kind == 1) = true := by simp; omega
            have w1' : (f.kind != 1) = false := by simp; omega
            by_cases b2 : f.n < 0
            · have HF : Hid (charsOk a = false) := Lib.hid (by rw [HC.out, hAB, hby, decide_eq_false (by omega)]; rfl)
              have w2 : decide (f.n < 0) = true := decide_eq_true b2
              clear hAB hby
              go_wp2_with fail
              go_ret
              exact ⟨by rw [HF.out]; rfl, HBE.out⟩
            · have w2 : decide (f.n < 0) = false := decide_eq_false b2
              by_cases b3 : 255 < f.n
              · have HF : Hid (charsOk a = false) := Lib.hid (by rw [HC.out, hAB, hby, decide_eq_false (by omega)]; rfl)
                have w3 : decide (255 < f.n) = true := decide_eq_true b3
                clear hAB hby
                go_wp2_with fail
                go_ret
                exact ⟨by rw [HF.out]; rfl, HBE.out⟩
              · have w3 : decide (255 < f.n) = false := decide_eq_false b3
                have HAB : Hid (allB y = allB a) := Lib.hid (by rw [hAB, hby, decide_eq_true ⟨b1, by omega, by omega⟩]; rfl)
                clear hAB hby
                go_wp2_with fail
                go_roundg g
                case measure => omega
                case rel => exact ⟨k + 1, q + 1 + h.sz, y, ps ++ [q + 1], by go_num, by have := HSZ.out; omega, by have := HSZ.out; omega, HBE.out, Lib.hid ⟨hIN.out.1, hIN.out.2.1, hIN.out.2.2.1, hIN.out.2.2.2.1, hIN.out.2.2.2.2, HAB.out⟩⟩
          · have w1 : (f.kind == 1) = false := by simp; omega
            have w1' : (f.kind != 1) = true := by simp; omega
            have HF : Hid (charsOk a = false) := Lib.hid (by rw [HC.out, hAB, hby, decide_eq_false (by omega)]; rfl)
            clear hAB hby
            go_wp2_with fail
            go_ret
            exact ⟨by rw [HF.out]; rfl, HBE.out⟩
  · have HC : Hid (charsOk a = false) := Lib.hid (by unfold charsOk; rw [htn, decide_eq_false h6]; simp)
    have q1 : (kd == 6) = false := by simp; omega
    have q2 : (kd != 6) = true := by simp; omega
    clear hrd hp hd hrl htl hsp htw htp htn h6 hkd htk c1 c2
    go_enter Tryd.func84, Tryd.ntmps84
    go_wp2_with fail
    go_ret
    exact ⟨by rw [HC.out]; rfl, Below.refl _ _⟩
end Go.Proofs.YtkhjdcnlpablkaaDoor

/-! The document's term: a leaf, a tuple. (Printed by genRterm.py.) -/
namespace Go.Proofs.YtkhjdcnlpablkaaDoor
open Go.RowKit
open Go.Lib (byteCells)

def RT (t : List Ce) (tv : Value) (a : T) : Prop := ∀ (w : World) (at' : Nat) (r : List Ce), Rd w 3 tv t.length (cvs t) → t.drop at' = a.cells ++ r → Calls Tryd.prog 38 #[tv, .int .i64 at'] w (NewB w a.enc)

/-- Bytes that grow beside a cell's box. -/
structure RtI (w wi : World) (v : Value) (xs : List UInt8) (c : Ce) : Prop where
  bs : Bs w.heap.size wi v xs
  bel : Below w.heap.size w wi
  box : wi.heap[w.heap.size]? = some (.cells #[.int .i64 c.kind, .int .i64 c.n, .string c.text] 60 (0, 0))
section
variable {w wi wj : World} {v v' : Value} {xs ys : List UInt8} {c : Ce}
theorem RtI.start (w : World) (c : Ce) : RtI w (w.alloc (.cells #[.int .i64 c.kind, .int .i64 c.n, .string c.text] 60)) (.slice none 0 0) [] c := ⟨Bs.nil _ _, (Below.refl _ _).alloc (Nat.le_refl _) _, heap_alloc_new w _⟩
theorem RtI.call (h : RtI w wi v xs c) (hb : Below wi.heap.size wi wj) : RtI w wj v xs c := ⟨h.bs.below hb, h.bel.trans (hb.mono h.bel.size), (hb.block _ (blk_lt h.box)).trans h.box⟩
theorem RtI.app (h : RtI w wi v xs c) (k : Wr w.heap.size wi v wj v' ys) : RtI w wj v' ys c := ⟨k.bs, h.bel.trans k.bel, k.fr.at h.box (fun e => h.bs.sl.ne h.box (by decide) _ e rfl)⟩
theorem RtI.size (h : RtI w wi v xs c) : w.heap.size ≤ wi.heap.size := h.bel.size
theorem RtI.cells (h : RtI w wi v xs c) : wi.cell? ⟨w.heap.size, 0, none⟩ = some (.int .i64 c.kind) ∧ wi.cell? ⟨w.heap.size, 1, none⟩ = some (.int .i64 c.n) ∧ wi.cell? ⟨w.heap.size, 2, none⟩ = some (.string c.text) := ⟨blk_cell h.box 0, blk_cell h.box 1, blk_cell h.box 2⟩
end
theorem b8_low (n : Int) : be4 (n % 4294967296) = be4 n := by
  have e : ∀ a b : Int, a % 256 = b % 256 → b8 a = b8 b := fun a b h => by unfold b8; rw [h]
  unfold be4
  rw [e (n % 4294967296 / 16777216) (n / 16777216) (by omega), e (n % 4294967296 / 65536) (n / 65536) (by omega), e (n % 4294967296 / 256) (n / 256) (by omega), e (n % 4294967296) n (by omega)]
theorem node_lit : (⟨#[110, 111, 110, 111, 100, 101, 64, 110, 111, 104, 111, 115, 116]⟩ : ByteArray) = nodeS := rfl

set_option maxHeartbeats 3200000 in
set_option maxRecDepth 100000 in
theorem rleaf1 (t : List Ce) (tv : Value) (hN : ∀ c ∈ t, c.i64) (c : Ce) (hw : (T.leaf c).wf) (hk : c.kind = 1) : RT t tv (.leaf c) := by
  intro w at' r hR hd
  obtain ⟨ao, cap, rfl, hcap, hmax⟩ := hR.shape
  unfold maxLen at hmax
  have hmem := drop_fst hd
  have hlt := (List.getElem?_eq_some_iff.1 hmem).1
  have hlz : (at' : Int) < (t.length : Int) := by omega
  obtain ⟨hn1, hn2⟩ := hN _ (List.mem_of_getElem? hmem)
  obtain ⟨g0, off, cap', hv, hq1, hq2, hq3⟩ := hR.at (by omega)
  clear hq1 hq2 hq3
  simp at hv
  obtain ⟨rfl, rfl⟩ := hv
  obtain ⟨d0, d1, d2⟩ := rd_cell hR rfl hmem
  have HI0 := Lib.hid (RtI.start w (T.leaf c).fst)
  rw [show (T.leaf c).fst = c from rfl] at d0 d1 d2 HI0 hn1 hn2
  have HZ := Lib.hid (cell_zero hw.1)
  have HB := Lib.hid (enc_leaf c)
  clear hmem hd hR hw hN
  obtain ⟨ck, cn, cs⟩ := c
  simp only at d0 d1 d2 hk hn1 hn2
  subst hk
  obtain ⟨c0, c1, c2⟩ := HI0.out.cells
  have hz := HI0.out.size
  have H := Lib.hid (whole_any cn ⟨hn1, hn2⟩ (w.alloc (.cells #[.int .i64 1, .int .i64 cn, .string cs] 60)))
  go_enter Tryd.func38, Tryd.ntmps38
  go_wp2_with fail
  refine (H.out).mono ?_
  rintro e w1 ⟨u, rfl, hu, hbe⟩
  have HU := Lib.hid hu
  have HI1 := Lib.hid (HI0.out.call hbe)
  have HZ0 := Lib.hid hz
  clear hu hbe
  go_wp2_with fail
  go_ret
  exact ⟨_, rfl, by rw [HB.out]; exact ⟨HU.out.sl, fun k hk => by have := HU.out.own k hk; have := HZ0.out; omega⟩, HI1.out.bel⟩

set_option maxHeartbeats 3200000 in
set_option maxRecDepth 100000 in
theorem rleaf2 (t : List Ce) (tv : Value) (hN : ∀ c ∈ t, c.i64) (c : Ce) (hw : (T.leaf c).wf) (hk : c.kind = 2) : RT t tv (.leaf c) := by
  intro w at' r hR hd
  obtain ⟨ao, cap, rfl, hcap, hmax⟩ := hR.shape
  unfold maxLen at hmax
  have hmem := drop_fst hd
  have hlt := (List.getElem?_eq_some_iff.1 hmem).1
  have hlz : (at' : Int) < (t.length : Int) := by omega
  obtain ⟨hn1, hn2⟩ := hN _ (List.mem_of_getElem? hmem)
  obtain ⟨g0, off, cap', hv, hq1, hq2, hq3⟩ := hR.at (by omega)
  clear hq1 hq2 hq3
  simp at hv
  obtain ⟨rfl, rfl⟩ := hv
  obtain ⟨d0, d1, d2⟩ := rd_cell hR rfl hmem
  have HI0 := Lib.hid (RtI.start w (T.leaf c).fst)
  rw [show (T.leaf c).fst = c from rfl] at d0 d1 d2 HI0 hn1 hn2
  have HZ := Lib.hid (cell_zero hw.1)
  have HB := Lib.hid (enc_leaf c)
  clear hmem hd hR hw hN
  obtain ⟨ck, cn, cs⟩ := c
  simp only at d0 d1 d2 hk hn1 hn2
  subst hk
  obtain ⟨c0, c1, c2⟩ := HI0.out.cells
  have hz := HI0.out.size
  have hsz : cs.size ≤ 100000 := by have := (HZ.out.2.2.2.2.2.2.2.1 rfl).1; simp only at this; omega
  have H := Lib.hid (ratom_any cs (w.alloc (.cells #[.int .i64 2, .int .i64 cn, .string cs] 60)) hsz)
  go_enter Tryd.func38, Tryd.ntmps38
  go_wp2_with fail
  refine (H.out).mono ?_
  rintro e w1 ⟨u, rfl, hu, hbe⟩
  have HU := Lib.hid hu
  have HI1 := Lib.hid (HI0.out.call hbe)
  have HZ0 := Lib.hid hz
  clear hu hbe
  go_wp2_with fail
  go_ret
  exact ⟨_, rfl, by rw [HB.out]; exact ⟨HU.out.sl, fun k hk => by have := HU.out.own k hk; have := HZ0.out; omega⟩, HI1.out.bel⟩

set_option maxHeartbeats 3200000 in
set_option maxRecDepth 100000 in
theorem rleaf3 (t : List Ce) (tv : Value) (hN : ∀ c ∈ t, c.i64) (c : Ce) (hw : (T.leaf c).wf) (hk : c.kind = 3) : RT t tv (.leaf c) := by
  intro w at' r hR hd
  obtain ⟨ao, cap, rfl, hcap, hmax⟩ := hR.shape
  unfold maxLen at hmax
  have hmem := drop_fst hd
  have hlt := (List.getElem?_eq_some_iff.1 hmem).1
  have hlz : (at' : Int) < (t.length : Int) := by omega
  obtain ⟨hn1, hn2⟩ := hN _ (List.mem_of_getElem? hmem)
  obtain ⟨g0, off, cap', hv, hq1, hq2, hq3⟩ := hR.at (by omega)
  clear hq1 hq2 hq3
  simp at hv
  obtain ⟨rfl, rfl⟩ := hv
  obtain ⟨d0, d1, d2⟩ := rd_cell hR rfl hmem
  have HI0 := Lib.hid (RtI.start w (T.leaf c).fst)
  rw [show (T.leaf c).fst = c from rfl] at d0 d1 d2 HI0 hn1 hn2
  have HZ := Lib.hid (cell_zero hw.1)
  have HB := Lib.hid (enc_leaf c)
  clear hmem hd hR hw hN
  obtain ⟨ck, cn, cs⟩ := c
  simp only at d0 d1 d2 hk hn1 hn2
  subst hk
  obtain ⟨c0, c1, c2⟩ := HI0.out.cells
  have hz := HI0.out.size
  go_enter Tryd.func38, Tryd.ntmps38
  go_wp2_with (at_builtin; refine wpList_bytesAt (.tmp 26) (.tmp 27) [90, 0, 2] _ 3 _ (by simp) rfl rfl rfl rfl HI0.out.bs (by simp [byteCells]) rfl hz (by simp) ?next)
  case next =>
    intro v1 w1 h1
    have HI1 := Lib.hid (HI0.out.app h1)
    clear h1 HI0 hz c0 c1 c2
    obtain ⟨c0, c1, c2⟩ := HI1.out.cells
    have hz := HI1.out.size
    go_wp2_with fail
    refine (ratom_any nodeS _ (by rw [node_size]; omega)).mono ?_
    rintro e w2 ⟨u, rfl, hu, hbe⟩
    have HI2 := Lib.hid (HI1.out.call hbe)
    have HU := Lib.hid hu.sl.rd
    clear hu hbe HI1 hz c0 c1 c2
    obtain ⟨c0, c1, c2⟩ := HI2.out.cells
    have hz := HI2.out.size
    go_wp2_with (at_builtin; refine wpList_bytes_rd (.tmp 29) (.tmp 30) (atomB nodeS) rfl rfl rfl rfl HI2.out.bs HU.out hz (by simp [atomB_len, node_size]) ?next)
    case next =>
      intro v3 w3 h3
      have HI3 := Lib.hid (HI2.out.app h3)
      clear h3 HI2 hz c0 c1 c2
      obtain ⟨c0, c1, c2⟩ := HI3.out.cells
      have hz := HI3.out.size
      clear HU
      go_wp2_with (at_builtin; refine wpList_bytesAt (.tmp 32) (.tmp 33) [0, 0, 0, 0] _ 4 _ (by simp) rfl rfl rfl rfl HI3.out.bs (by simp [byteCells]) rfl hz (by simp [atomB_len, node_size]) ?next)
      case next =>
        intro v4 w4 h4
        have HI4 := Lib.hid (HI3.out.app h4)
        clear h4 HI3 hz c0 c1 c2
        obtain ⟨c0, c1, c2⟩ := HI4.out.cells
        have hz := HI4.out.size
        go_wp2_with fail
        refine (four_any cn _).mono ?_
        rintro e w5 ⟨u, rfl, hu, hbe⟩
        have HI5 := Lib.hid (HI4.out.call hbe)
        have HU := Lib.hid hu.sl.rd
        clear hu hbe HI4 hz c0 c1 c2
        obtain ⟨c0, c1, c2⟩ := HI5.out.cells
        have hz := HI5.out.size
        go_wp2_with (at_builtin; refine wpList_bytes_rd (.tmp 35) (.tmp 38) (be4 cn) rfl rfl rfl rfl HI5.out.bs HU.out hz (by simp [be4_len, atomB_len, node_size]) ?next)
        case next =>
          intro v6 w6 h6
          have HI6 := Lib.hid (HI5.out.app h6)
          clear h6 HI5 hz c0 c1 c2
          obtain ⟨c0, c1, c2⟩ := HI6.out.cells
          have hz := HI6.out.size
          clear HU
          go_wp2_with fail
          refine (four_any (cn / 4294967296) _).mono ?_
          rintro e w7 ⟨u, rfl, hu, hbe⟩
          have HI7 := Lib.hid (HI6.out.call hbe)
          have HU := Lib.hid hu.sl.rd
          clear hu hbe HI6 hz c0 c1 c2
          obtain ⟨c0, c1, c2⟩ := HI7.out.cells
          have hz := HI7.out.size
          go_wp2_with (at_builtin; refine wpList_bytes_rd (.tmp 40) (.tmp 44) (be4 (cn / 4294967296)) rfl rfl rfl rfl HI7.out.bs HU.out hz (by simp [be4_len, atomB_len, node_size]) ?next)
          case next =>
            intro v8 w8 h8
            have HI8 := Lib.hid (HI7.out.app h8)
            clear h8 HI7 hz c0 c1 c2
            obtain ⟨c0, c1, c2⟩ := HI8.out.cells
            have hz := HI8.out.size
            clear HU
            go_wp2_with fail
            go_ret
            exact ⟨_, rfl, by rw [HB.out]; have := HI8.out.bs; have e : leafB ⟨3, cn, cs⟩ = [] ++ [90, 0, 2] ++ atomB nodeS ++ [0, 0, 0, 0] ++ be4 cn ++ be4 (cn / 4294967296) := (by rw [← b8_low cn]; rfl); rw [e]; exact this, HI8.out.bel⟩

set_option maxHeartbeats 3200000 in
set_option maxRecDepth 100000 in
theorem rleaf4 (t : List Ce) (tv : Value) (hN : ∀ c ∈ t, c.i64) (c : Ce) (hw : (T.leaf c).wf) (hk : c.kind = 4) : RT t tv (.leaf c) := by
  intro w at' r hR hd
  obtain ⟨ao, cap, rfl, hcap, hmax⟩ := hR.shape
  unfold maxLen at hmax
  have hmem := drop_fst hd
  have hlt := (List.getElem?_eq_some_iff.1 hmem).1
  have hlz : (at' : Int) < (t.length : Int) := by omega
  obtain ⟨hn1, hn2⟩ := hN _ (List.mem_of_getElem? hmem)
  obtain ⟨g0, off, cap', hv, hq1, hq2, hq3⟩ := hR.at (by omega)
  clear hq1 hq2 hq3
  simp at hv
  obtain ⟨rfl, rfl⟩ := hv
  obtain ⟨d0, d1, d2⟩ := rd_cell hR rfl hmem
  have HI0 := Lib.hid (RtI.start w (T.leaf c).fst)
  rw [show (T.leaf c).fst = c from rfl] at d0 d1 d2 HI0 hn1 hn2
  have HZ := Lib.hid (cell_zero hw.1)
  have HB := Lib.hid (enc_leaf c)
  clear hmem hd hR hw hN
  obtain ⟨ck, cn, cs⟩ := c
  simp only at d0 d1 d2 hk hn1 hn2
  subst hk
  obtain ⟨c0, c1, c2⟩ := HI0.out.cells
  have hz := HI0.out.size
  go_enter Tryd.func38, Tryd.ntmps38
  go_wp2_with (at_builtin; refine wpList_bytesAt (.tmp 48) (.tmp 49) [88] _ 1 _ (by simp) rfl rfl rfl rfl HI0.out.bs (by simp [byteCells]) rfl hz (by simp) ?next)
  case next =>
    intro v1 w1 h1
    have HI1 := Lib.hid (HI0.out.app h1)
    clear h1 HI0 hz c0 c1 c2
    obtain ⟨c0, c1, c2⟩ := HI1.out.cells
    have hz := HI1.out.size
    go_wp2_with fail
    refine (ratom_any nodeS _ (by rw [node_size]; omega)).mono ?_
    rintro e w2 ⟨u, rfl, hu, hbe⟩
    have HI2 := Lib.hid (HI1.out.call hbe)
    have HU := Lib.hid hu.sl.rd
    clear hu hbe HI1 hz c0 c1 c2
    obtain ⟨c0, c1, c2⟩ := HI2.out.cells
    have hz := HI2.out.size
    go_wp2_with (at_builtin; refine wpList_bytes_rd (.tmp 51) (.tmp 52) (atomB nodeS) rfl rfl rfl rfl HI2.out.bs HU.out hz (by simp [atomB_len, node_size]) ?next)
    case next =>
      intro v3 w3 h3
      have HI3 := Lib.hid (HI2.out.app h3)
      clear h3 HI2 hz c0 c1 c2
      obtain ⟨c0, c1, c2⟩ := HI3.out.cells
      have hz := HI3.out.size
      clear HU
      go_wp2_with fail
      refine (four_any cn _).mono ?_
      rintro e w4 ⟨u, rfl, hu, hbe⟩
      have HI4 := Lib.hid (HI3.out.call hbe)
      have HU := Lib.hid hu.sl.rd
      clear hu hbe HI3 hz c0 c1 c2
      obtain ⟨c0, c1, c2⟩ := HI4.out.cells
      have hz := HI4.out.size
      go_wp2_with (at_builtin; refine wpList_bytes_rd (.tmp 54) (.tmp 57) (be4 cn) rfl rfl rfl rfl HI4.out.bs HU.out hz (by simp [be4_len, atomB_len, node_size]) ?next)
      case next =>
        intro v5 w5 h5
        have HI5 := Lib.hid (HI4.out.app h5)
        clear h5 HI4 hz c0 c1 c2
        obtain ⟨c0, c1, c2⟩ := HI5.out.cells
        have hz := HI5.out.size
        clear HU
        go_wp2_with fail
        refine (four_any (cn / 4294967296) _).mono ?_
        rintro e w6 ⟨u, rfl, hu, hbe⟩
        have HI6 := Lib.hid (HI5.out.call hbe)
        have HU := Lib.hid hu.sl.rd
        clear hu hbe HI5 hz c0 c1 c2
        obtain ⟨c0, c1, c2⟩ := HI6.out.cells
        have hz := HI6.out.size
        go_wp2_with (at_builtin; refine wpList_bytes_rd (.tmp 59) (.tmp 63) (be4 (cn / 4294967296)) rfl rfl rfl rfl HI6.out.bs HU.out hz (by simp [be4_len, atomB_len, node_size]) ?next)
        case next =>
          intro v7 w7 h7
          have HI7 := Lib.hid (HI6.out.app h7)
          clear h7 HI6 hz c0 c1 c2
          obtain ⟨c0, c1, c2⟩ := HI7.out.cells
          have hz := HI7.out.size
          clear HU
          go_wp2_with (at_builtin; refine wpList_bytesAt (.tmp 65) (.tmp 66) [0, 0, 0, 0] _ 4 _ (by simp) rfl rfl rfl rfl HI7.out.bs (by simp [byteCells]) rfl hz (by simp [be4_len, atomB_len, node_size]) ?next)
          case next =>
            intro v8 w8 h8
            have HI8 := Lib.hid (HI7.out.app h8)
            clear h8 HI7 hz c0 c1 c2
            obtain ⟨c0, c1, c2⟩ := HI8.out.cells
            have hz := HI8.out.size
            go_wp2_with fail
            go_ret
            exact ⟨_, rfl, by rw [HB.out]; have := HI8.out.bs; have e : leafB ⟨4, cn, cs⟩ = [] ++ [88] ++ atomB nodeS ++ be4 cn ++ be4 (cn / 4294967296) ++ [0, 0, 0, 0] := (by rw [← b8_low cn]; rfl); rw [e]; exact this, HI8.out.bel⟩

set_option maxHeartbeats 3200000 in
set_option maxRecDepth 100000 in
theorem rleaf6 (t : List Ce) (tv : Value) (hN : ∀ c ∈ t, c.i64) (c : Ce) (hw : (T.leaf c).wf) (hk : c.kind = 6) : RT t tv (.leaf c) := by
  intro w at' r hR hd
  obtain ⟨ao, cap, rfl, hcap, hmax⟩ := hR.shape
  unfold maxLen at hmax
  have hmem := drop_fst hd
  have hlt := (List.getElem?_eq_some_iff.1 hmem).1
  have hlz : (at' : Int) < (t.length : Int) := by omega
  obtain ⟨hn1, hn2⟩ := hN _ (List.mem_of_getElem? hmem)
  obtain ⟨g0, off, cap', hv, hq1, hq2, hq3⟩ := hR.at (by omega)
  clear hq1 hq2 hq3
  simp at hv
  obtain ⟨rfl, rfl⟩ := hv
  obtain ⟨d0, d1, d2⟩ := rd_cell hR rfl hmem
  have HI0 := Lib.hid (RtI.start w (T.leaf c).fst)
  rw [show (T.leaf c).fst = c from rfl] at d0 d1 d2 HI0 hn1 hn2
  have HZ := Lib.hid (cell_zero hw.1)
  have HB := Lib.hid (enc_leaf c)
  clear hmem hd hR hw hN
  obtain ⟨ck, cn, cs⟩ := c
  simp only at d0 d1 d2 hk hn1 hn2
  subst hk
  obtain ⟨c0, c1, c2⟩ := HI0.out.cells
  have hz := HI0.out.size
  go_enter Tryd.func38, Tryd.ntmps38
  go_wp2_with fail
  go_ret
  have h := Bs.new (w.alloc (.cells #[.int .i64 6, .int .i64 cn, .string cs] 60)) [.int .u8 106] [106] 1 rfl rfl (by omega)
  rw [show (w.alloc (.cells #[.int .i64 6, .int .i64 cn, .string cs] 60)).heap.size = w.heap.size + 1 by simp] at h
  have e : leafB ⟨6, cn, cs⟩ = [106] := rfl
  exact ⟨_, rfl, by rw [HB.out, e]; exact ⟨h.sl, fun k hk => by have := h.own k hk; omega⟩, HI0.out.bel.alloc hz _⟩

set_option maxHeartbeats 3200000 in
set_option maxRecDepth 100000 in
theorem rleaf8 (t : List Ce) (tv : Value) (hN : ∀ c ∈ t, c.i64) (c : Ce) (hw : (T.leaf c).wf) (hk : c.kind = 8) : RT t tv (.leaf c) := by
  intro w at' r hR hd
  obtain ⟨ao, cap, rfl, hcap, hmax⟩ := hR.shape
  unfold maxLen at hmax
  have hmem := drop_fst hd
  have hlt := (List.getElem?_eq_some_iff.1 hmem).1
  have hlz : (at' : Int) < (t.length : Int) := by omega
  obtain ⟨hn1, hn2⟩ := hN _ (List.mem_of_getElem? hmem)
  obtain ⟨g0, off, cap', hv, hq1, hq2, hq3⟩ := hR.at (by omega)
  clear hq1 hq2 hq3
  simp at hv
  obtain ⟨rfl, rfl⟩ := hv
  obtain ⟨d0, d1, d2⟩ := rd_cell hR rfl hmem
  have HI0 := Lib.hid (RtI.start w (T.leaf c).fst)
  rw [show (T.leaf c).fst = c from rfl] at d0 d1 d2 HI0 hn1 hn2
  have HZ := Lib.hid (cell_zero hw.1)
  have HB := Lib.hid (enc_leaf c)
  clear hmem hd hR hw hN
  obtain ⟨ck, cn, cs⟩ := c
  simp only at d0 d1 d2 hk hn1 hn2
  subst hk
  obtain ⟨c0, c1, c2⟩ := HI0.out.cells
  have hz := HI0.out.size
  have hsz : cs.size ≤ 1024 := by have := HZ.out.2.2.2.2.2.2.2.2 rfl; simp only at this; omega
  go_enter Tryd.func38, Tryd.ntmps38
  go_wp2_with (at_builtin; refine wpList_bytesAt (.tmp 78) (.tmp 79) [109] _ 1 _ (by simp) rfl rfl rfl rfl HI0.out.bs (by simp [byteCells]) rfl hz (by simp) ?next)
  case next =>
    intro v1 w1 h1
    have HI1 := Lib.hid (HI0.out.app h1)
    clear h1 HI0 hz c0 c1 c2
    obtain ⟨c0, c1, c2⟩ := HI1.out.cells
    have hz := HI1.out.size
    go_wp2_with fail
    refine (four_any (cs.size : Int) _).mono ?_
    rintro e w2 ⟨u, rfl, hu, hbe⟩
    have HI2 := Lib.hid (HI1.out.call hbe)
    have HU := Lib.hid hu.sl.rd
    clear hu hbe HI1 hz c0 c1 c2
    obtain ⟨c0, c1, c2⟩ := HI2.out.cells
    have hz := HI2.out.size
    go_wp2_with (at_builtin; refine wpList_bytes_rd (.tmp 81) (.tmp 85) (be4 (cs.size : Int)) rfl rfl rfl rfl HI2.out.bs HU.out hz (by simp [be4_len]) ?next)
    case next =>
      intro v3 w3 h3
      have HI3 := Lib.hid (HI2.out.app h3)
      clear h3 HI2 hz c0 c1 c2
      obtain ⟨c0, c1, c2⟩ := HI3.out.cells
      have hz := HI3.out.size
      clear HU
      obtain ⟨capx, wx, hcv, hrdx, hbex⟩ := conv_str w3 cs (by unfold maxLen; omega)
      have hl : cs.data.toList.length = cs.size := by simp
      rw [hl] at hrdx
      have HIX := Lib.hid (HI3.out.call hbex)
      have HU := Lib.hid hrdx
      obtain ⟨kx, hkx⟩ : ∃ kx, w3.heap.size = kx := ⟨_, rfl⟩
      rw [hkx] at hcv HU
      have hzx := HIX.out.size
      clear hrdx hbex
      go_wp2_with (at_builtin; refine wpList_bytes_rd (.tmp 87) (.tmp 90) cs.data.toList rfl rfl rfl rfl HIX.out.bs (by rw [hl]; exact HU.out) hzx (by simp [be4_len]; omega) ?next)
      case next =>
        intro v9 w9 h9
        have HI9 := Lib.hid (HIX.out.app h9)
        clear h9 HU HIX hzx
        go_wp2_with fail
        go_ret
        exact ⟨_, rfl, by rw [HB.out]; have := HI9.out.bs; simpa [leafB, List.append_assoc] using this, HI9.out.bel⟩

theorem rleaf_any (t : List Ce) (tv : Value) (hN : ∀ c ∈ t, c.i64) (c : Ce) (hw : (T.leaf c).wf) : RT t tv (.leaf c) := by
  obtain ⟨k1, k8, _⟩ := cell_zero hw.1
  have h5 := hw.2.1
  have h7 := hw.2.2
  rcases (show c.kind = 1 ∨ c.kind = 2 ∨ c.kind = 3 ∨ c.kind = 4 ∨ c.kind = 6 ∨ c.kind = 8 by omega) with h | h | h | h | h | h
  · exact rleaf1 t tv hN c hw h
  · exact rleaf2 t tv hN c hw h
  · exact rleaf3 t tv hN c hw h
  · exact rleaf4 t tv hN c hw h
  · exact rleaf6 t tv hN c hw h
  · exact rleaf8 t tv hN c hw h
end Go.Proofs.YtkhjdcnlpablkaaDoor

/-! The document's term and list: a tuple, a list; all terms. -/
namespace Go.Proofs.YtkhjdcnlpablkaaDoor
open Go.RowKit
open Go.Lib (byteCells)

set_option maxHeartbeats 3200000 in
set_option maxRecDepth 100000 in
theorem rtup (t : List Ce) (tv : Value) (hlen : t.length ≤ 1024) (c : Ce) (ks : List T) (hw : (T.tup c ks).wf) (ih : ∀ y ∈ ks, RT t tv y) : RT t tv (.tup c ks) := by
  intro w at' r hR hd
  have hkn := hw.2.2.1
  have hk5 := hw.2.1
  have hks := hw.2.2.2
  obtain ⟨ao, cap, rfl, hcap, hmax⟩ := hR.shape
  unfold maxLen at hmax
  have hmem := drop_fst hd
  have hlt := (List.getElem?_eq_some_iff.1 hmem).1
  have hlz : (at' : Int) < (t.length : Int) := by omega
  have hal : at' + 1 + T.szL ks ≤ t.length := by
    have := congrArg List.length hd
    rw [List.length_drop, List.length_append] at this
    have h1 := sz_tup c ks
    unfold T.sz at h1
    omega
  obtain ⟨g0, off, cap', hv, hq1, hq2, hq3⟩ := hR.at (by omega)
  clear hq1 hq2 hq3
  simp at hv
  obtain ⟨rfl, rfl⟩ := hv
  obtain ⟨d0, d1, d2⟩ := rd_cell hR rfl hmem
  have hdk : t.drop (at' + 1) = T.cellsL ks ++ r := by
    have := drop_next (m := 1) (a := [c]) (r := T.cellsL ks ++ r) (by rw [hd]; simp [T.cells]) rfl
    exact this
  have HI0 := Lib.hid (RtI.start w (T.tup c ks).fst)
  rw [show (T.tup c ks).fst = c from rfl] at d0 d1 d2 HI0
  have HZ := Lib.hid (cell_zero hw.1)
  have hn255 : ks.length ≤ 255 := by have := HZ.out.2.2.2.2.2.2.1 hk5; omega
  have HB := Lib.hid (enc_tup c ks)
  have hbL := encL_len hks
  have HR := Lib.hid hR
  have HIH := Lib.hid ih
  have HKS := Lib.hid hks
  have HDK := Lib.hid hdk
  clear hmem hd hR hw ih hks hdk
  obtain ⟨ck, cn, cs⟩ := c
  simp only at d0 d1 d2 hk5 hkn
  subst hk5 hkn
  obtain ⟨c0, c1, c2⟩ := HI0.out.cells
  have hz := HI0.out.size
  simp only at c0 c1 c2 hz
  go_enter Tryd.func38, Tryd.ntmps38
  go_wp2_with (at_builtin; refine wpList_bytesAt (.tmp 92) (.tmp 96) [104, b8 (ks.length : Int)] _ 2 _ (by simp) rfl rfl rfl rfl HI0.out.bs (by simp [byteCells, b8_val]; omega) rfl hz (by simp) ?next)
  case next =>
    intro v1 w1 h1
    have HI1 := Lib.hid (HI0.out.app h1)
    clear h1 HI0 hz c0 c1 c2
    obtain ⟨c0, c1, c2⟩ := HI1.out.cells
    have hz := HI1.out.size
    go_wp2_with fail
    clear c0 c1 c2 hz d0 d1 d2
    go_loopg [1, 6, 7] ks.length (fun g s1 s6 s7 wr => ∃ (q : Nat) (pre rest : List T), s1 = .int .i64 q ∧ s7 = .int .i64 pre.length ∧ pre.length + g = ks.length ∧ q + T.szL rest ≤ t.length ∧ T.szL pre + T.szL rest = T.szL ks ∧ RtI w wr s6 ([] ++ [104, b8 (ks.length : Int)] ++ T.encL pre) ⟨5, ks.length, cs⟩ ∧ Hid (ks = pre ++ rest ∧ t.drop q = T.cellsL rest ++ r))
    case atStart => exact ⟨at' + 1, [], ks, by go_num, rfl, by simp, by omega, by simp [szL_nil], by rw [encL_nil, List.append_nil]; exact HI1.out, Lib.hid ⟨rfl, HDK.out⟩⟩
    case round =>
      clear HI1
      obtain ⟨q, pre, rest, rfl, rfl, hg, hq, hszs, hi, hI⟩ := hrel
      obtain ⟨hI1, hI2⟩ := hI.out
      obtain ⟨c0, c1, c2⟩ := hi.cells
      simp only at c0 c1 c2
      have hz := hi.size
      cases rest with
      | nil =>
        have hpl : pre.length = ks.length := by rw [hI1]; simp
        have HI := Lib.hid hi
        have HE : Hid (T.encL ks = T.encL pre) := Lib.hid (by rw [hI1, List.append_nil])
        rw [hpl] at *
        clear hI hI1 hI2 hi hg hq hszs
        go_wp2_with fail
        go_ret
        exact ⟨_, rfl, by rw [HB.out, HE.out]; exact HI.out.bs, HI.out.bel⟩
      | cons y ys =>
        have hpl : pre.length < ks.length := by rw [hI1]; simp
        have hplz : (pre.length : Int) < (ks.length : Int) := by omega
        have hwy := (wfL_app pre (y :: ys)).1 (by rw [← hI1]; exact HKS.out)
        have hyw : y.wf := hwy.2.1
        rw [szL_cons] at hq hszs
        have hyp := sz_pos y
        have hdy : t.drop q = y.cells ++ (T.cellsL ys ++ r) := by rw [hI2]; simp [T.cellsL]
        have hdn : t.drop (q + y.sz) = T.cellsL ys ++ r := drop_next hdy rfl
        have he := end_term hyw hdy
        have H38 := Lib.hid (HIH.out y (by rw [hI1]; simp) wr q _ (HR.out.below (Nat.le_refl _) hi.bel) hdy)
        have HY := Lib.hid (enc_len hyw).1
        have HP : Hid ((T.encL pre).length ≤ 1040 * T.szL pre) := Lib.hid (encL_len hwy.1)
        have H75 : Hid (∀ W, Below w.heap.size w W → Calls Tryd.prog 75 #[.slice (some ⟨g0, off, none⟩) t.length cap, .int .i64 q] W fun e w' => e = .returned (.tuple #[.int .i64 ((q + y.sz : Nat) : Int), .int .i64 0]) ∧ Below W.heap.size W w') := Lib.hid (fun W hW => by
          have := rend_t t (.slice (some ⟨g0, off, none⟩) t.length cap) q hlen W (HR.out.below (Nat.le_refl _) hW)
          rw [he] at this
          exact this)
        have HI := Lib.hid hi
        have HNX : Hid (ks = (pre ++ [y]) ++ ys ∧ t.drop (q + y.sz) = T.cellsL ys ++ r) := Lib.hid ⟨by rw [hI1]; simp, hdn⟩
        have HQ := Lib.hid (⟨hq, hszs, hg⟩ : q + (y.sz + T.szL ys) ≤ t.length ∧ T.szL pre + (y.sz + T.szL ys) = T.szL ks ∧ pre.length + gk = ks.length)
        clear hI hI1 hI2 hi hg hq hszs hwy hyw hdy hdn he
        go_wp2_with fail
        refine (H38.out).mono ?_
        rintro e w2 ⟨u, rfl, hu, hbe⟩
        have HI2 := Lib.hid (HI.out.call hbe)
        have HU := Lib.hid hu.sl.rd
        clear hu hbe HI hz c0 c1 c2 H38
        obtain ⟨c0, c1, c2⟩ := HI2.out.cells
        simp only at c0 c1 c2
        have hz := HI2.out.size
        go_wp2_with (at_builtin; refine wpList_bytes_rd (.tmp 106) (.tmp 109) y.enc rfl rfl rfl rfl HI2.out.bs HU.out hz (by have h1 := HY.out; have h2 := HP.out; have h3 := HQ.out; simp; omega) ?next2)
        case next2 =>
          intro v3 w3 h3
          have HI3 := Lib.hid (HI2.out.app h3)
          clear h3 HI2 hz c0 c1 c2 HU
          have H75b := Lib.hid (H75.out w3 HI3.out.bel)
          go_wp2_with fail
          refine (H75b.out).mono ?_
          rintro e w4 ⟨rfl, hbe4⟩
          have HI4 := Lib.hid (HI3.out.call hbe4)
          clear hbe4 HI3 H75 H75b
          go_wp2_with fail
          go_roundg (gk - 1)
          case measure => have := HQ.out; omega
          case rel => exact ⟨q + y.sz, pre ++ [y], ys, rfl, by first | go_num | (congr 1; simp), by have := HQ.out; simp; omega, by have := HQ.out; omega, by have := HQ.out; unfold T.szL at *; rw [cellsL_app]; simp [T.cellsL, T.sz] at *; omega, by
            have := HI4.out
            rw [encL_app, encL_cons, encL_nil, List.append_nil, ← List.append_assoc]
            exact this, HNX⟩
def RL (t : List Ce) (tv : Value) (a : T) : Prop := ∀ (w : World) (at' : Nat) (r : List Ce), Rd w 3 tv t.length (cvs t) → t.drop at' = a.cells ++ r → Calls Tryd.prog 74 #[tv, .int .i64 at'] w (NewB w a.enc)

theorem runT_nil {x : T} (h : runLen x = 0) : x.encT = x.enc ∧ spLen x = 0 ∧ charB x = [] := by
  cases x with
  | leaf c => exact ⟨encT_leaf c, rfl, rfl⟩
  | tup c ks => exact ⟨encT_tup c ks, rfl, rfl⟩
  | cons h y => simp [runLen] at h

/-- Bytes that grow beside a list of places. -/
structure LpI (w wi : World) (v : Value) (xs : List UInt8) (pv : Value) (n : Nat) (zs : List Nat) : Prop where
  bs : Bs w.heap.size wi v xs
  sl : Sl wi 3 1 pv n (nats zs)
  bel : Below w.heap.size w wi
section
variable {w wi wj : World} {v v' pv : Value} {xs ys : List UInt8} {n : Nat} {zs : List Nat}
theorem Sl.calls {e size : Nat} {cs : List Value} (h : Sl wi e size pv n cs) (hb : Below wi.heap.size wi wj) : Sl wj e size pv n cs := h.keep fun q hq => hb.block q (h.lt q hq)
theorem LpI.call (h : LpI w wi v xs pv n zs) (hb : Below wi.heap.size wi wj) : LpI w wj v xs pv n zs := ⟨h.bs.below hb, h.sl.calls hb, h.bel.trans (hb.mono h.bel.size)⟩
theorem LpI.app (h : LpI w wi v xs pv n zs) (k : Wr w.heap.size wi v wj v' ys) : LpI w wj v' ys pv n zs := ⟨k.bs, k.fr.sl h.sl (fun q hq hv => by
  obtain ⟨c, hc⟩ := h.sl.cells q hq
  exact h.bs.sl.ne hc (by decide) _ hv rfl), h.bel.trans k.bel⟩
end

set_option maxHeartbeats 3200000 in
set_option maxRecDepth 100000 in
/-- A list of bytes. -/
theorem rlist_chars (t : List Ce) (tv : Value) (hlen : t.length ≤ 1024) (a : T) (hw : a.wf) (hch : charsOk a = true) (hb : a.enc = [107] ++ be2 (runLen a) ++ charB a) : RL t tv a := by
  intro w at' r hR hd
  have hrl := (run_le a).1
  have hal : at' + a.sz ≤ t.length := by
    have := congrArg List.length hd
    rw [List.length_drop, List.length_append] at this
    have h1 := sz_pos a
    unfold T.sz at *
    omega
  obtain ⟨ao, cap, rfl, hcap, hmax⟩ := hR.shape
  unfold maxLen at hmax
  have HR := Lib.hid hR
  have HD := Lib.hid hd
  have HW := Lib.hid hw
  have H83 := Lib.hid (rrun_any t _ hlen at' a r hw hd w hR)
  have H84 : Hid (∀ (W : World) (pv : Value), Below w.heap.size w W → Rd W 1 pv (runLen a) (nats (plcs a at')) → Calls Tryd.prog 84 #[.slice ao t.length cap, pv, .int .i64 ((at' + spLen a : Nat) : Int)] W fun e w' => e = .returned (.bool true) ∧ Below W.heap.size W w') := Lib.hid (fun W pv hW hp => by
    have := short_any t (.slice ao t.length cap) pv hlen at' a r hw hd W (hR.below (Nat.le_refl _) hW) hp
    rw [hch] at this
    exact this)
  have hab : allB a = true := by
    unfold charsOk at hch
    simp only [Bool.and_eq_true, decide_eq_true_eq] at hch
    exact hch.1.1
  have HAB := Lib.hid hab
  have HB := Lib.hid hb
  have HPL := Lib.hid (plcs_len a at')
  have hN : runLen a ≤ 1024 := by omega
  obtain ⟨n, hn⟩ : ∃ n, runLen a = n := ⟨_, rfl⟩
  rw [hn] at hN HPL H83 H84 HB hrl
  have HRN := Lib.hid hn
  obtain ⟨tk, htk⟩ : ∃ tk, at' + spLen a = tk := ⟨_, rfl⟩
  rw [htk] at H83 H84
  clear hR hd hw hch hb hab hn htk
  go_enter Tryd.func74, Tryd.ntmps74
  go_wp2_with fail
  refine (H83.out).mono ?_
  rintro e w1 ⟨pv, rfl, hps, hbe1⟩
  have HPS := Lib.hid hps
  have HBE1 := Lib.hid hbe1
  have H84b := Lib.hid (H84.out w1 pv hbe1 hps.rd)
  obtain ⟨aop, capp, rfl, hcp, hmp⟩ := hps.shape
  unfold maxLen at hmp
  clear hps hbe1 H83 H84
  go_wp2_with fail
  refine (H84b.out).mono ?_
  rintro e w2 ⟨rfl, hbe2⟩
  have hbe02 := HBE1.out.trans (hbe2.mono HBE1.out.size)
  have HL3 : Hid (LpI w (w2.alloc (.cells #[.int .u8 107] 5)) (.slice (some ⟨w2.heap.size, 0, none⟩) 1 1) [107] (.slice aop n capp) n (plcs a at')) := Lib.hid (by
    have := Bs.new w2 [.int .u8 107] [107] 1 rfl rfl (by omega)
    exact ⟨⟨this.sl, fun k hk => by have h1 := this.own k hk; have h2 := hbe02.size; omega⟩, (HPS.out.calls hbe2).alloc _, hbe02.alloc hbe02.size _⟩)
  have H85 := Lib.hid (two_any (n : Int) (w2.alloc (.cells #[.int .u8 107] 5)))
  clear hbe2 hbe02 HPS HBE1 H84b
  go_wp2_with fail
  refine (H85.out).mono ?_
  rintro e w4 ⟨u, rfl, hu, hbe4⟩
  have HL4 := Lib.hid (HL3.out.call hbe4)
  have HU := Lib.hid hu.sl.rd
  have hz := HL4.out.bel.size
  clear hu hbe4 HL3 H85
  go_wp2_with (at_builtin; refine wpList_bytes_rd (.tmp 24) (.tmp 27) (be2 n) rfl rfl rfl rfl HL4.out.bs HU.out hz (by simp [be2_len]) ?next)
  case next =>
    intro v5 w5 h5
    have HL5 := Lib.hid (HL4.out.app h5)
    clear h5 HL4 hz HU
    go_wp2_with fail
    go_loopg [7, 31] n (fun g s7 s31 wr => ∃ (k q : Nat) (x : T) (ps : List Nat) (pre : List UInt8), s31 = .int .i64 k ∧ k + g = n ∧ q + x.sz ≤ t.length ∧ pre.length = k ∧ LpI w wr s7 ([107] ++ be2 n ++ pre) (.slice aop n capp) n (plcs a at') ∧ Hid (x.wf ∧ t.drop q = x.cells ++ r ∧ runLen x = g ∧ plcs a at' = ps ++ plcs x q ∧ ps.length = k ∧ allB x = true ∧ charB a = pre ++ charB x))
    case atStart => exact ⟨0, at', a, [], [], rfl, by omega, hal, rfl, by rw [List.append_nil]; exact HL5.out, Lib.hid ⟨HW.out, HD.out, HRN.out, rfl, rfl, HAB.out, rfl⟩⟩
    case round =>
      clear HL5
      obtain ⟨k, q, x, ps, pre, rfl, hkg, hqx, hpre, hli, hI⟩ := hrel
      obtain ⟨hxw, hxd, hx1, hx2, hx3, hx4, hx5⟩ := hI.out
      have HLI := Lib.hid hli
      have hz := hli.bel.size
      cases gk with
      | zero =>
        obtain rfl : k = n := by omega
        have HE : Hid (a.enc = [107] ++ be2 k ++ pre) := Lib.hid (by rw [HB.out, hx5, (runT_nil hx1).2.2, List.append_nil])
        clear hI hxw hxd hx1 hx2 hx3 hx4 hx5 hli hqx hpre
        go_wp2_with fail
        go_ret
        exact ⟨_, rfl, by rw [HE.out]; exact HLI.out.bs, HLI.out.bel⟩
      | succ g =>
        cases x with
        | leaf c => simp [runLen] at hx1
        | tup c ks => simp [runLen] at hx1
        | cons h y =>
          have hdh : t.drop (q + 1) = h.cells ++ (y.cells ++ r) := by
            have := drop_next (m := 1) (a := [consC]) (r := h.cells ++ (y.cells ++ r)) (by rw [hxd]; simp [T.cells]) rfl
            exact this
          have hdy : t.drop (q + 1 + h.sz) = y.cells ++ r := drop_next hdh rfl
          have hsz := sz_cons h y
          have hp1 := sz_pos h
          have hp2 := sz_pos y
          have hrd := HR.out.below (Nat.le_refl _) hli.bel
          obtain ⟨gt, ot, capt, hvt, _, _, _⟩ := hrd.at (by omega)
          simp at hvt
          obtain ⟨rfl, rfl⟩ := hvt
          obtain ⟨d0, d1, d2⟩ := rd_cell hrd rfl (drop_fst hdh)
          obtain ⟨gp, op, capq, hvp, hq1, hq2, hq3⟩ := hli.sl.rd.at (by omega)
          simp at hvp
          obtain ⟨rfl, rfl⟩ := hvp
          have e0 := hq3 k (by omega)
          rw [nats_at (k := q + 1) (by rw [hx2, List.getElem?_append_right (by omega), hx3, Nat.sub_self]; rfl)] at e0
          have hby : isByte h = true ∧ allB y = true := by simpa [allB] using hx4
          obtain ⟨c, rfl⟩ : ∃ c, h = .leaf c := by
            cases h with
            | leaf c => exact ⟨c, rfl⟩
            | tup c ks => simp [isByte] at hby
            | cons p q => simp [isByte] at hby
          have hIN : Hid (y.wf ∧ t.drop (q + 1 + (T.leaf c).sz) = y.cells ++ r ∧ runLen y = g ∧ plcs a at' = (ps ++ [q + 1]) ++ plcs y (q + 1 + (T.leaf c).sz) ∧ (ps ++ [q + 1]).length = k + 1 ∧ allB y = true ∧ charB a = (pre ++ [b8 c.n]) ++ charB y) := Lib.hid ⟨hxw.2, hdy, by simp only [runLen] at hx1; omega, by rw [hx2]; simp only [plcs, List.append_assoc, List.cons_append, List.nil_append], by simp [hx3], hby.2, by rw [hx5]; simp [charB]⟩
          rw [show (T.leaf c).fst = c from rfl] at d0 d1 d2
          have hqt : q + 1 < t.length := by omega
          have hqz : (q : Int) + 1 < (t.length : Int) := by omega
          have hkn : k < n := by omega
          have hkz : (k : Int) < (n : Int) := by omega
          have HSZ := Lib.hid (⟨hqx, hsz, hkg, hpre⟩ : q + (T.cons (.leaf c) y).sz ≤ t.length ∧ (T.cons (.leaf c) y).sz = 1 + (T.leaf c).sz + y.sz ∧ k + (g + 1) = n ∧ pre.length = k)
          clear hI hxw hxd hx1 hx2 hx3 hx4 hx5 hdh hdy hrd hq1 hq2 hq3 hqx hsz hby hli
          go_wp2_with (at_builtin; refine wpList_bytes (.tmp 35) (.tmp 42) [b8 c.n] _ 1 rfl rfl rfl rfl HLI.out.bs (bytes1 _) rfl hz (by simp [be2_len]; omega) ?next)
          case next =>
            intro v6 w6 h6
            have HL6 := Lib.hid (HLI.out.app h6)
            clear h6 HLI hz e0 d0 d1 d2
            go_wp2_with fail
            go_roundg g
            case measure => omega
            case rel => exact ⟨k + 1, q + 1 + (T.leaf c).sz, y, ps ++ [q + 1], pre ++ [b8 c.n], by go_num, by have := HSZ.out; omega, by have := HSZ.out; omega, by have := HSZ.out; simp; omega, by rw [← List.append_assoc]; exact HL6.out, hIN⟩

set_option maxHeartbeats 3200000 in
set_option maxRecDepth 100000 in
/-- Any other list. -/
theorem rlist_long (t : List Ce) (tv : Value) (hlen : t.length ≤ 1024) (a : T) (hw : a.wf) (hpos : 1 ≤ runLen a) (hch : charsOk a = false) (hb : a.enc = [108] ++ be4 (runLen a) ++ a.encT) (ih : ∀ b : T, b.sz < a.sz → b.wf → RT t tv b) : RL t tv a := by
  intro w at' r hR hd
  have hrl := (run_le a).1
  have hal : at' + a.sz ≤ t.length := by
    have := congrArg List.length hd
    rw [List.length_drop, List.length_append] at this
    have h1 := sz_pos a
    unfold T.sz at *
    omega
  obtain ⟨ao, cap, rfl, hcap, hmax⟩ := hR.shape
  unfold maxLen at hmax
  have HR := Lib.hid hR
  have HD := Lib.hid hd
  have HW := Lib.hid hw
  have HIH := Lib.hid ih
  have HEL := Lib.hid (enc_len hw).2
  have H83 := Lib.hid (rrun_any t _ hlen at' a r hw hd w hR)
  have H84 : Hid (∀ (W : World) (pv : Value), Below w.heap.size w W → Rd W 1 pv (runLen a) (nats (plcs a at')) → Calls Tryd.prog 84 #[.slice ao t.length cap, pv, .int .i64 ((at' + spLen a : Nat) : Int)] W fun e w' => e = .returned (.bool false) ∧ Below W.heap.size W w') := Lib.hid (fun W pv hW hp => by
    have := short_any t (.slice ao t.length cap) pv hlen at' a r hw hd W (hR.below (Nat.le_refl _) hW) hp
    rw [hch] at this
    exact this)
  have HB := Lib.hid hb
  have HPL := Lib.hid (plcs_len a at')
  have hN : runLen a ≤ 1024 := by omega
  obtain ⟨n, hn⟩ : ∃ n, runLen a = n := ⟨_, rfl⟩
  rw [hn] at hN HPL H83 H84 HB hrl hpos
  have HRN := Lib.hid hn
  obtain ⟨tk, htk⟩ : ∃ tk, at' + spLen a = tk := ⟨_, rfl⟩
  rw [htk] at H83 H84
  have HTK := Lib.hid htk
  have HAS := Lib.hid (⟨hal, hrl, hpos⟩ : at' + a.sz ≤ t.length ∧ n + 1 ≤ a.sz ∧ 1 ≤ n)
  clear hR hd hw hch hb hn htk ih
  go_enter Tryd.func74, Tryd.ntmps74
  go_wp2_with fail
  refine (H83.out).mono ?_
  rintro e w1 ⟨pv, rfl, hps, hbe1⟩
  have HPS := Lib.hid hps
  have HBE1 := Lib.hid hbe1
  have H84b := Lib.hid (H84.out w1 pv hbe1 hps.rd)
  obtain ⟨aop, capp, rfl, hcp, hmp⟩ := hps.shape
  unfold maxLen at hmp
  clear hps hbe1 H83 H84
  go_wp2_with fail
  refine (H84b.out).mono ?_
  rintro e w2 ⟨rfl, hbe2⟩
  have hbe02 := HBE1.out.trans (hbe2.mono HBE1.out.size)
  have HL3 : Hid (LpI w (w2.alloc (.cells #[.int .u8 108] 5)) (.slice (some ⟨w2.heap.size, 0, none⟩) 1 1) [108] (.slice aop n capp) n (plcs a at')) := Lib.hid (by
    have := Bs.new w2 [.int .u8 108] [108] 1 rfl rfl (by omega)
    exact ⟨⟨this.sl, fun k hk => by have h1 := this.own k hk; have h2 := hbe02.size; omega⟩, (HPS.out.calls hbe2).alloc _, hbe02.alloc hbe02.size _⟩)
  have H40 := Lib.hid (four_any (n : Int) (w2.alloc (.cells #[.int .u8 108] 5)))
  clear hbe2 hbe02 HPS HBE1 H84b
  go_wp2_with fail
  refine (H40.out).mono ?_
  rintro e w4 ⟨u, rfl, hu, hbe4⟩
  have HL4 := Lib.hid (HL3.out.call hbe4)
  have HU := Lib.hid hu.sl.rd
  have hz := HL4.out.bel.size
  clear hu hbe4 HL3 H40
  go_wp2_with (at_builtin; refine wpList_bytes_rd (.tmp 47) (.tmp 50) (be4 n) rfl rfl rfl rfl HL4.out.bs HU.out hz (by simp [be4_len]) ?next)
  case next =>
    intro v5 w5 h5
    have HL5 := Lib.hid (HL4.out.app h5)
    clear h5 HL4 hz HU
    go_wp2_with fail
    go_loopg [10, 54] n (fun g s10 s54 wr => ∃ (k q : Nat) (x : T) (ps : List Nat) (pre : List UInt8), s54 = .int .i64 k ∧ k + g = n ∧ q + x.sz ≤ t.length ∧ k + x.sz ≤ a.sz ∧ LpI w wr s10 ([108] ++ be4 n ++ pre) (.slice aop n capp) n (plcs a at') ∧ Hid (x.wf ∧ t.drop q = x.cells ++ r ∧ runLen x = g ∧ plcs a at' = ps ++ plcs x q ∧ ps.length = k ∧ q + spLen x = tk ∧ a.encT = pre ++ x.encT))
    case atStart => exact ⟨0, at', a, [], [], rfl, by omega, hal, by omega, by rw [List.append_nil]; exact HL5.out, Lib.hid ⟨HW.out, HD.out, HRN.out, rfl, rfl, HTK.out, rfl⟩⟩
    case round =>
      clear HL5
      obtain ⟨k, q, x, ps, pre, rfl, hkg, hqx, hkx, hli, hI⟩ := hrel
      obtain ⟨hxw, hxd, hx1, hx2, hx3, hx4, hx5⟩ := hI.out
      have HLI := Lib.hid hli
      have hz := hli.bel.size
      have HLN : Hid (pre.length + x.encT.length ≤ 1040 * a.sz) := Lib.hid (by
        have h1 := HEL.out
        rw [hx5, List.length_append] at h1
        exact h1)
      cases gk with
      | zero =>
        obtain rfl : k = n := by omega
        obtain ⟨hn1, hn2, _⟩ := runT_nil hx1
        obtain rfl : q = tk := by omega
        have H38 := Lib.hid (HIH.out x (by have := HAS.out; omega) hxw wr q r (HR.out.below (Nat.le_refl _) hli.bel) hxd)
        have HE : Hid (a.enc = [108] ++ be4 k ++ pre ++ x.enc) := Lib.hid (by rw [HB.out, hx5, hn1, List.append_assoc, List.append_assoc, List.append_assoc])
        rw [hn1] at HLN
        clear hI hxw hxd hx1 hx2 hx3 hx4 hx5 hli hqx hn1 hn2
        go_wp2_with fail
        refine (H38.out).mono ?_
        rintro e w6 ⟨u, rfl, hu, hbe⟩
        have HL6 := Lib.hid (HLI.out.call hbe)
        have HU := Lib.hid hu.sl.rd
        clear hu hbe HLI hz H38
        have hz := HL6.out.bel.size
        go_wp2_with (at_builtin; refine wpList_bytes_rd (.tmp 64) (.tmp 67) x.enc rfl rfl rfl rfl HL6.out.bs HU.out hz (by have h1 := HLN.out; have h2 := HAS.out; simp [be4_len]; omega) ?next2)
        case next2 =>
          intro v7 w7 h7
          have HL7 := Lib.hid (HL6.out.app h7)
          clear h7 HL6 HU
          go_wp2_with fail
          go_ret
          exact ⟨_, rfl, by rw [HE.out]; exact HL7.out.bs, HL7.out.bel⟩
      | succ g =>
        cases x with
        | leaf c => simp [runLen] at hx1
        | tup c ks => simp [runLen] at hx1
        | cons h y =>
          have hdh : t.drop (q + 1) = h.cells ++ (y.cells ++ r) := by
            have := drop_next (m := 1) (a := [consC]) (r := h.cells ++ (y.cells ++ r)) (by rw [hxd]; simp [T.cells]) rfl
            exact this
          have hdy : t.drop (q + 1 + h.sz) = y.cells ++ r := drop_next hdh rfl
          have hsz := sz_cons h y
          have hp1 := sz_pos h
          have hp2 := sz_pos y
          obtain ⟨gp, op, capq, hvp, hq1, hq2, hq3⟩ := hli.sl.rd.at (by omega)
          simp at hvp
          obtain ⟨rfl, rfl⟩ := hvp
          have e0 := hq3 k (by omega)
          rw [nats_at (k := q + 1) (by rw [hx2, List.getElem?_append_right (by omega), hx3, Nat.sub_self]; rfl)] at e0
          have H38 := Lib.hid (HIH.out h (by omega) hxw.1 wr (q + 1) _ (HR.out.below (Nat.le_refl _) hli.bel) hdh)
          have hIN : Hid (y.wf ∧ t.drop (q + 1 + h.sz) = y.cells ++ r ∧ runLen y = g ∧ plcs a at' = (ps ++ [q + 1]) ++ plcs y (q + 1 + h.sz) ∧ (ps ++ [q + 1]).length = k + 1 ∧ (q + 1 + h.sz) + spLen y = tk ∧ a.encT = (pre ++ h.enc) ++ y.encT) := Lib.hid ⟨hxw.2, hdy, by simp only [runLen] at hx1; omega, by rw [hx2]; simp only [plcs, List.append_assoc, List.cons_append, List.nil_append], by simp [hx3], by simp only [spLen] at hx4; omega, by rw [hx5, encT_cons, List.append_assoc]⟩
          rw [encT_cons, List.length_append] at HLN
          have hkn : k < n := by omega
          have hkz : (k : Int) < (n : Int) := by omega
          have HSZ := Lib.hid (⟨hqx, hsz, hkg, hkx, hp1⟩ : q + (T.cons h y).sz ≤ t.length ∧ (T.cons h y).sz = 1 + h.sz + y.sz ∧ k + (g + 1) = n ∧ k + (T.cons h y).sz ≤ a.sz ∧ 1 ≤ h.sz)
          clear hI hxw hxd hx1 hx2 hx3 hx4 hx5 hdh hdy hq1 hq2 hq3 hqx hkx hsz hli
          go_wp2_with fail
          refine (H38.out).mono ?_
          rintro e w6 ⟨u, rfl, hu, hbe⟩
          have HL6 := Lib.hid (HLI.out.call hbe)
          have HU := Lib.hid hu.sl.rd
          clear hu hbe HLI hz H38 e0
          have hz := HL6.out.bel.size
          go_wp2_with (at_builtin; refine wpList_bytes_rd (.tmp 58) (.tmp 61) h.enc rfl rfl rfl rfl HL6.out.bs HU.out hz (by have h1 := HLN.out; have h2 := HAS.out; simp [be4_len]; omega) ?next)
          case next =>
            intro v7 w7 h7
            have HL7 := Lib.hid (HL6.out.app h7)
            clear h7 HL6 HU hz
            go_wp2_with fail
            go_roundg g
            case measure => omega
            case rel => exact ⟨k + 1, q + 1 + h.sz, y, ps ++ [q + 1], pre ++ h.enc, by go_num, by have := HSZ.out; omega, by have := HSZ.out; omega, by have := HSZ.out; omega, by rw [← List.append_assoc]; exact HL7.out, hIN⟩

set_option maxRecDepth 100000 in
/-- A cons is a list. -/
theorem rcons (t : List Ce) (tv : Value) (h y : T) (hl : RL t tv (.cons h y)) : RT t tv (.cons h y) := by
  intro w at' r hR hd
  have H74 := Lib.hid (hl (w.alloc (.cells #[.int .i64 7, .int .i64 0, .string ⟨#[]⟩] 60)) at' r (hR.below (Nat.le_refl _) ((Below.refl _ w).alloc (Nat.le_refl _) _)) hd)
  obtain ⟨ao, cap, rfl, hcap, hmax⟩ := hR.shape
  unfold maxLen at hmax
  have hmem := drop_fst hd
  have hlt := (List.getElem?_eq_some_iff.1 hmem).1
  have hlz : (at' : Int) < (t.length : Int) := by omega
  obtain ⟨g0, off, cap', hv, hq1, hq2, hq3⟩ := hR.at (by omega)
  clear hq1 hq2 hq3
  simp at hv
  obtain ⟨rfl, rfl⟩ := hv
  obtain ⟨d0, d1, d2⟩ := rd_cell hR rfl hmem
  have HI0 := Lib.hid (RtI.start w consC)
  have e0 : w.cell? ⟨g0, off + at' * 3, none⟩ = some (.int .i64 7) := d0
  have e1 : w.cell? ⟨g0, off + at' * 3 + 1, none⟩ = some (.int .i64 0) := d1
  have e2 : w.cell? ⟨g0, off + at' * 3 + 2, none⟩ = some (.string ⟨#[]⟩) := d2
  obtain ⟨c0, c1, c2⟩ := HI0.out.cells
  have c0' : (w.alloc (.cells #[.int .i64 7, .int .i64 0, .string ⟨#[]⟩] 60)).cell? ⟨w.heap.size, 0, none⟩ = some (.int .i64 7) := c0
  have hz := HI0.out.size
  clear hmem hd hR hl d0 d1 d2 c0 c1 c2
  go_enter Tryd.func38, Tryd.ntmps38
  go_wp2_with fail
  refine (H74.out).mono ?_
  rintro e w1 ⟨u, rfl, hu, hbe⟩
  have HU := Lib.hid hu
  have HBE := Lib.hid (HI0.out.bel.trans (hbe.mono hz))
  have HZ := Lib.hid hz
  clear hu hbe hz
  go_wp2_with fail
  go_ret
  exact ⟨_, rfl, ⟨HU.out.sl, fun k hk => by have h1 := HU.out.own k hk; have h2 := HZ.out; exact Nat.le_trans h2 h1⟩, HBE.out⟩

theorem rterm_all (t : List Ce) (tv : Value) (hlen : t.length ≤ 1024) (hN : ∀ c ∈ t, c.i64) : ∀ (n : Nat) (a : T), a.sz ≤ n → a.wf → RT t tv a
  | 0, a, h, _ => by have := sz_pos a; omega
  | n + 1, .leaf c, _, hw => rleaf_any t tv hN c hw
  | n + 1, .tup c ks, h, hw => rtup t tv hlen c ks hw fun y hy => by
    rw [sz_tup] at h
    have hle : ∀ (l : List T), y ∈ l → y.sz ≤ T.szL l := by
      intro l hl
      induction l with
      | nil => simp at hl
      | cons x xs ihx =>
        rw [szL_cons]
        rcases List.mem_cons.1 hl with rfl | hl
        · omega
        · have := ihx hl; omega
    have := hle ks hy
    exact rterm_all t tv hlen hN n y (by omega) (wfL_mem hw.2.2.2 y hy)
  | n + 1, .cons x y, h, hw => rcons t tv x y (by
    have he := enc_cons x y
    by_cases hch : charsOk (.cons x y) = true
    · rw [if_pos hch] at he
      exact rlist_chars t tv hlen _ hw hch he
    · rw [if_neg hch, ← encT_cons] at he
      exact rlist_long t tv hlen _ hw (by simp [runLen]) (by simpa using hch) he fun b hb hbw => rterm_all t tv hlen hN n b (by omega) hbw)
end Go.Proofs.YtkhjdcnlpablkaaDoor

/-! The document's Encode. Lent, Kept: cells with a mark behind them. -/
namespace Go.Proofs.YtkhjdcnlpablkaaDoor
open Go.RowKit
open Go.Lib (byteCells)

set_option maxHeartbeats 1600000 in
set_option maxRecDepth 100000 in
theorem REncode_any (t : List Ce) (tv : Value) (hk : OkCes t) (w : World) (hrd : Rd w 3 tv t.length (cvs t)) :
    Calls Tryd.prog 21 #[tv] w fun e w' => ∃ v', e = .returned (.tuple #[v', .int .i64 (rightT t).1]) ∧ Bs w.heap.size w' v' (encV t) ∧ Below w.heap.size w w' := by
  have HR := Lib.hid (rright_t t tv hk.txt w hrd)
  have HRD := Lib.hid hrd
  obtain ⟨ao, cap, rfl, hcap, hmax⟩ := hrd.shape
  clear hrd
  by_cases h0 : (rightT t).1 = 0
  · have hr := right_zero h0
    obtain ⟨h1, h2, h3⟩ := termOf_ok hr
    have HE := Lib.hid (encV_ok hr)
    have HA := Lib.hid (rterm_all t (.slice ao t.length cap) h3 hk.num _ (termOf t) (Nat.le_refl _) h2)
    have HD : Hid (t.drop 0 = (termOf t).cells ++ []) := Lib.hid (by rw [h1]; simp)
    have HL : Hid ((termOf t).enc.length ≤ 1064960) := Lib.hid (by
      have := (enc_len h2).1
      have hs : (termOf t).sz ≤ 1024 := by unfold T.sz; rw [h1]; exact h3
      omega)
    have H0 := Lib.hid hr
    clear h0 hr h1 h2 h3 hk
    go_enter Tryd.func21, Tryd.ntmps21
    go_wp2_with fail
    refine (HR.out).mono ?_
    rintro e w1 ⟨rfl, hb1⟩
    rw [H0.out]
    have hz1 := hb1.size
    have hbs : Bs w.heap.size (w1.alloc (.cells #[.int .u8 131] 5)) (.slice (some ⟨w1.heap.size, 0, none⟩) 1 1) [131] :=
      ⟨Sl.new w1 5 [.int .u8 131] 1 rfl (by unfold maxLen; omega), fun k hk => by simp [Value.ownBlock] at hk; omega⟩
    have HBS := Lib.hid hbs
    have HB1 := Lib.hid (hb1.alloc hz1 (.cells #[.int .u8 131] 5))
    have H38 := Lib.hid (HA.out (w1.alloc (.cells #[.int .u8 131] 5)) 0 [] (HRD.out.below (Nat.le_refl _) HB1.out) HD.out)
    clear hb1 hbs hz1 HR
    go_wp2_with fail
    refine (H38.out).mono ?_
    rintro e w2 ⟨u, rfl, hu, hbe⟩
    have HBS2 := Lib.hid (HBS.out.below hbe)
    have HB2 := Lib.hid (HB1.out.trans (hbe.mono HB1.out.size))
    have HU := Lib.hid hu.sl.rd
    have hz := HB2.out.size
    clear hu hbe HBS HB1 H38
    go_wp2_with (at_builtin; refine wpList_bytes_rd (.tmp 16) (.tmp 18) (termOf t).enc rfl rfl rfl rfl HBS2.out HU.out hz (by have := HL.out; simp; omega) ?next)
    case next =>
      intro v3 w3 h3
      have H3 := Lib.hid h3
      clear h3 HU HBS2
      go_wp2_with fail
      go_ret2
      exact ⟨_, by rw [H0.out]; rfl, by rw [HE.out]; exact H3.out.bs, HB2.out.trans H3.out.bel⟩
  · have HE := Lib.hid (encV_bad h0)
    obtain ⟨e0, he0⟩ : ∃ e, (rightT t).1 = e := ⟨_, rfl⟩
    obtain ⟨e1, he1⟩ : ∃ e, (rightT t).2 = e := ⟨_, rfl⟩
    rw [he0] at h0 HR
    rw [he1] at HR
    rw [he0]
    have q1 : ((e0 : Int) == 0) = false := by simp; omega
    have q2 : ((e0 : Int) != 0) = true := by simp; omega
    clear h0 hk he0 he1
    go_enter Tryd.func21, Tryd.ntmps21
    go_wp2_with fail
    refine (HR.out).mono ?_
    rintro e w1 ⟨rfl, hb1⟩
    have HB1 := Lib.hid hb1
    clear hb1
    go_wp2_with fail
    go_ret2
    exact ⟨_, rfl, by rw [HE.out]; exact Bs.nil _ _, HB1.out⟩

/-! ### Lent, Kept -/
def markS : ByteArray := ⟨#[98, 101, 104, 105, 110, 100, 32, 119, 104, 97, 116, 32, 119, 97, 115, 32, 104, 97, 110, 100, 101, 100, 32, 105, 110]⟩
def markC : Ce := ⟨0, 0, markS⟩
/-- Cells t, of a block from B on, and the mark behind them. -/
def LentC (B : Nat) (w : World) (v : Value) (t : List Ce) : Prop := ∃ g off cap, v = .slice (some ⟨g, off, none⟩) t.length cap ∧ t.length + 1 ≤ cap ∧ cap ≤ maxLen ∧ B ≤ g ∧ Sl w 60 3 (.slice (some ⟨g, off, none⟩) (t.length + 1) cap) (t.length + 1) (cvs (t ++ [markC]))
theorem LentC.below {B : Nat} {w w' : World} {v : Value} {t : List Ce} (h : LentC B w v t) (hb : Below w.heap.size w w') : LentC B w' v t := by
  obtain ⟨g, off, cap, h1, h2, h3, h4, h5⟩ := h
  exact ⟨g, off, cap, h1, h2, h3, h4, h5.keep fun k hk => hb.block k (h5.lt k hk)⟩
theorem LentC.rd {B : Nat} {w : World} {v : Value} {t : List Ce} (h : LentC B w v t) : Rd w 3 v t.length (cvs t) := by
  obtain ⟨g, off, cap, rfl, h2, h3, h4, h5⟩ := h
  have := h5.take (m := t.length) (by omega)
  rw [show cvs (t ++ [markC]) = cvs t ++ cvs [markC] by simp [cvs], List.take_left' (cvs_len t)] at this
  exact this.rd

theorem Tryd.info60b : (Tryd.prog.info? 60).map (fun i => (i.zero, i.size, i.bytes)) = some (some (.agg #[.int .i64 0, .int .i64 0, .string ByteArray.empty]), 3, 32) := by kernel_rfl
theorem cv_one2 (c : Ce) : ∀ u ∈ cv c, u.oneCell' = true := by intro u hu; simp [cv] at hu; rcases hu with rfl | rfl | rfl <;> rfl
theorem cvs_one2 (l : List Ce) : ∀ u ∈ cvs l, u.oneCell' = true := by
  intro u hu
  obtain ⟨c, _, hc⟩ := List.mem_flatMap.1 hu
  exact cv_one2 c u hc

set_option maxHeartbeats 1600000 in
set_option maxRecDepth 100000 in
theorem rlent_any (t : List Ce) (v : Value) (w : World) (hr : Rd w 3 v t.length (cvs t)) (hl : t.length * 32 ≤ 140737488355328) :
    Calls Tryd.prog 20 #[v] w fun e w' => ∃ v', e = .returned v' ∧ LentC w.heap.size w' v' t ∧ Below w.heap.size w w' := by
  obtain ⟨i0, hinf, hz0, hz1, hz2⟩ := info_parts Tryd.info60b
  obtain ⟨ao, cap, rfl, _, _⟩ := hr.shape
  have HR := Lib.hid hr
  clear hr
  have hl2 : t.length ≤ 4398046511104 := by omega
  go_enter Tryd.func20, Tryd.ntmps20
  go_wp2_with (at_builtin; refine wpList_append_sl_rd rfl (.tmp 4) (.tmp 5) 24 rfl 60 i0 (.agg #[.int .i64 0, .int .i64 0, .string ByteArray.empty]) 3 32 Tryd.underlying24 hinf hz0 hz1 hz2 rfl (by decide) (.slice none 0 0) 0 [] rfl (Sl.nil _ _ _) _ t.length (cvs t) rfl HR.out (cvs_one2 t) (by unfold maxLen; omega) (by omega) ?next)
  case next =>
    intro v1 w1 h1 hf1 hv1
    obtain ⟨ao1, cap1, rfl, hc1, hm1⟩ := h1.shape
    have hown1 : ∀ k, Value.ownBlock (.slice ao1 t.length cap1) = some k → w.heap.size ≤ k := fun k hk => by
      rcases hv1 with e | e
      · rw [e] at hk; simp [Value.ownBlock] at hk
      · rw [e] at hk; simp at hk; omega
    have hbe1 : Below w.heap.size w w1 := hf1.below (Nat.le_refl _) (fun k hk => by simp [Value.ownBlock] at hk)
    have H1 := Lib.hid h1
    have HO1 := Lib.hid hown1
    have HB1 := Lib.hid hbe1
    have hz := hbe1.size
    clear h1 hf1 hv1 hown1 hbe1
    go_wp2_with (at_builtin; refine wpList_append_one rfl (.tmp 7) (.tmp 9) 24 rfl 60 i0 (.agg #[.int .i64 0, .int .i64 0, .string ByteArray.empty]) 3 32 Tryd.underlying24 hinf hz0 hz1 hz2 rfl (by decide) _ t.length (cvs t) rfl (H1.out.alloc _) ⟨w1.heap.size, 0, none⟩ 1 (cvs [markC]) rfl rfl (cells_new w1 (cvs [markC]) 60) (cvs_one2 _) (by unfold maxLen; omega) (by omega) (by omega) ?next2)
    case next2 =>
      intro v2 w2 h2 hf2 hv2
      obtain ⟨g, off, cap2, cur, rfl, hc2, hm2, _⟩ := h2.blk (by omega)
      have hF : Fr (fun q => Value.ownBlock (.slice ao1 t.length cap1) = some q) w1 w2 := ((Fr.refl _ w1).alloc _).trans hf2
      have hn : w.heap.size ≤ g := by
        rcases hv2 with e | e
        · exact HO1.out g (e ▸ rfl)
        · simp [Value.ownBlock] at e; omega
      have HB := Lib.hid (HB1.out.trans (hF.below hz HO1.out))
      have H2 : Hid (Sl w2 60 3 (.slice (some ⟨g, off, none⟩) (t.length + 1) cap2) (t.length + 1) (cvs (t ++ [markC]))) := Lib.hid (by rw [show cvs (t ++ [markC]) = cvs t ++ cvs [markC] by simp [cvs]]; exact h2)
      have hm3 := hm2
      unfold maxLen at hm3
      clear hF h2 hf2 hv2 H1 HO1
      go_wp2_with fail
      go_ret
      exact ⟨_, rfl, ⟨g, off, cap2, rfl, hc2, hm2, hn, H2.out⟩, HB.out⟩

set_option maxHeartbeats 1600000 in
set_option maxRecDepth 100000 in
theorem rkept_any (B : Nat) (t : List Ce) (v u : Value) (w : World) (hr : Rd w 3 u t.length (cvs t)) (hl : LentC B w v t) (hle : t.length * 32 ≤ 140737488355328) :
    Calls Tryd.prog 23 #[v, u] w fun e w' => e = .returned (.bool true) ∧ Below w.heap.size w w' := by
  have HS := Lib.hid (same_any t t v u w hl.rd hr)
  obtain ⟨ao, capu, rfl, _, _⟩ := hr.shape
  have HL := Lib.hid hl
  obtain ⟨g, off, cap, rfl, h2, h3, h4, h5⟩ := hl
  have hm3 := h3
  unfold maxLen at hm3
  have hl2 : t.length ≤ 4398046511104 := by omega
  have H5 := Lib.hid h5
  clear hr h5
  go_enter Tryd.func23, Tryd.ntmps23
  go_wp2_with fail
  refine (HS.out).mono ?_
  rintro e w1 ⟨b, rfl, hb, hbe⟩
  obtain rfl : b = true := hb.2 (by trivial)
  have h6 : Sl w1 60 3 (.slice (some ⟨g, off, none⟩) (t.length + 1) cap) (t.length + 1) (cvs (t ++ [markC])) := H5.out.keep fun k hk => hbe.block k (H5.out.lt k hk)
  have c2 := h6.cell (t.length * 3 + 2) (by omega)
  rw [cvs_at (t := t ++ [markC]) (k := t.length) (c := markC) (by simp) 2 (by omega)] at c2
  have c3 : w1.cell? ⟨g, off + t.length * 3 + 2, none⟩ = some (.string markS) := by rw [Nat.add_assoc]; exact c2
  have HB := Lib.hid hbe
  unfold markS at c3
  clear h6 c2 hb hbe HS HL H5
  go_wp2_with fail
  go_ret
  exact ⟨rfl, HB.out⟩
end Go.Proofs.YtkhjdcnlpablkaaDoor

/-! The document's reader: fail, take, number, count. -/
namespace Go.Proofs.YtkhjdcnlpablkaaDoor
open Go.RowKit
open Go.Lib (byteCells)

/-- The state of the document's reader. -/
structure Ds where
  pos : Nat
  cells : Nat
  out : List Ce
  why : Nat
  place : Nat
def Ds.rs (s : Ds) : Rs := ⟨s.pos, s.cells, s.out⟩

def Ds.blk (bv sv : Value) (s : Ds) : Obj := .cells #[bv, .int .i64 s.pos, sv, .int .i64 s.cells, .int .i64 s.why, .int .i64 s.place] 64 (0, 0)

structure Dp (B : Nat) (w : World) (rb : Nat) (bv sv : Value) (bs : List UInt8) (s : Ds) : Prop where
  blk : w.heap[rb]? = some (s.blk bv sv)
  sl : Sl w 60 3 sv s.out.length (cvs s.out)
  inp : RdU B w 1 bv bs.length (byteCells bs)
  hB : B ≤ rb
  own : ∀ k, sv.ownBlock = some k → B ≤ k
  le : s.pos ≤ bs.length

structure Dw (B : Nat) (w : World) (rb : Nat) (bv sv : Value) (bs : List UInt8) (w' : World) (sv' : Value) (s' : Ds) : Prop where
  rp : Dp B w' rb bv sv' bs s'
  fr : Fr (fun k => k = rb ∨ sv.ownBlock = some k) w w'
  nw : ∀ k, sv'.ownBlock = some k → sv.ownBlock = some k ∨ w.heap.size ≤ k

section
variable {B rb : Nat} {w w' w2 : World} {bv sv sv' sv2 : Value} {bs : List UInt8} {s s' s2 : Ds}

theorem Dp.lt (h : Dp B w rb bv sv bs s) : rb < w.heap.size := blk_lt h.blk
theorem Dp.Ble (h : Dp B w rb bv sv bs s) : B ≤ w.heap.size := by have := h.lt; have := h.hB; omega
theorem Dw.bel (h : Dp B w rb bv sv bs s) (k : Dw B w rb bv sv bs w' sv' s') : Below B w w' :=
  k.fr.below h.Ble fun q hq => by rcases hq with rfl | e; exact h.hB; exact h.own q e
theorem Dw.refl (h : Dp B w rb bv sv bs s) : Dw B w rb bv sv bs w sv s := ⟨h, Fr.refl _ _, fun _ hk => .inl hk⟩
theorem Dw.trans (h : Dw B w rb bv sv bs w' sv' s') (k : Dw B w' rb bv sv' bs w2 sv2 s2) : Dw B w rb bv sv bs w2 sv2 s2 :=
  ⟨k.rp, h.fr.trans' k.fr fun i hi => by
    rcases hi with rfl | e
    · exact .inl (.inl rfl)
    · rcases h.nw i e with e | e
      · exact .inl (.inr e)
      · exact .inr e, fun q hq => by
    rcases k.nw q hq with e | e
    · exact h.nw q e
    · have := h.fr.size; exact .inr (by omega)⟩

/-- Memory made behind it changes nothing. -/
theorem Dp.below (h : Dp B w rb bv sv bs s) (hb : Below w.heap.size w w') : Dp B w' rb bv sv bs s :=
  ⟨(hb.block rb h.lt).trans h.blk, h.sl.keep fun k hk => hb.block k (h.sl.lt k hk), h.inp.step (hb.mono h.Ble), h.hB, h.own, h.le⟩
theorem Dw.behind (hb : Below w.heap.size w w') (k : Dw B w' rb bv sv bs w2 sv2 s2) : Dw B w rb bv sv bs w2 sv2 s2 :=
  ⟨k.rp, Fr.trans' ⟨hb.os, hb.tape, hb.output, hb.size, fun q hq _ => hb.block q hq⟩ k.fr (fun i hi => .inl hi), fun q hq => by
    rcases k.nw q hq with e | e
    · exact .inl e
    · have := hb.size; exact .inr (by omega)⟩
theorem Dw.below (k : Dw B w rb bv sv bs w' sv' s') (hb : Below w'.heap.size w' w2) : Dw B w rb bv sv bs w2 sv' s' :=
  ⟨k.rp.below hb, k.fr.trans ⟨hb.os, hb.tape, hb.output, hb.size, fun q hq _ => hb.block q hq⟩, k.nw⟩

/-- Fields are written. -/
theorem Dp.upd (h : Dp B w rb bv sv bs s) (hf : Fr (fun k => k = rb) w w') (hb : w'.heap[rb]? = some (s'.blk bv sv)) (ho : s'.out = s.out) (hp : s'.pos ≤ bs.length) : Dw B w rb bv sv bs w' sv s' :=
  ⟨⟨hb, by rw [ho]; exact hf.sl h.sl fun k hk e => h.sl.ne (c := #[bv, .int .i64 s.pos, sv, .int .i64 s.cells, .int .i64 s.why, .int .i64 s.place]) h.blk (by decide) k hk e,
    h.inp.step (hf.below h.Ble fun k hk => by subst hk; exact h.hB), h.hB, h.own, hp⟩, hf.mono fun k hk => .inl hk, fun _ hk => .inl hk⟩
end

def Ds.fail (s : Ds) (e p : Nat) : Ds := if s.why = 0 then { s with why := e, place := p } else s
theorem Ds.fail_zero {s : Ds} (h : s.why = 0) (e p : Nat) : s.fail e p = { s with why := e, place := p } := by unfold Ds.fail; rw [if_pos h]
def Ds.count (s : Ds) (n at' : Nat) : Ds := if 1024 < s.cells + n then s.fail 7 at' else { s with cells := s.cells + n }

theorem Ds.cell {w : World} {rb : Nat} {bv sv : Value} {s : Ds} (h : w.heap[rb]? = some (s.blk bv sv)) :
    w.cell? ⟨rb, 0, none⟩ = some bv ∧ w.cell? ⟨rb, 1, none⟩ = some (.int .i64 s.pos) ∧ w.cell? ⟨rb, 2, none⟩ = some sv ∧ w.cell? ⟨rb, 3, none⟩ = some (.int .i64 s.cells) ∧
      w.cell? ⟨rb, 4, none⟩ = some (.int .i64 s.why) ∧ w.cell? ⟨rb, 5, none⟩ = some (.int .i64 s.place) :=
  ⟨blk_cell h 0, blk_cell h 1, blk_cell h 2, blk_cell h 3, blk_cell h 4, blk_cell h 5⟩

set_option maxRecDepth 100000 in
theorem dfail_any (B rb : Nat) (bv sv : Value) (bs : List UInt8) (s : Ds) (e p : Nat) (w : World) (h : Dp B w rb bv sv bs s) :
    Calls Tryd.prog 33 #[.pointer (some ⟨rb, 0, none⟩), .int .i64 e, .int .i64 p] w fun r w' => r = .returned (.tuple #[]) ∧ Dw B w rb bv sv bs w' sv (s.fail e p) := by
  obtain ⟨c0, c1, c2, c3, c4, c5⟩ := Ds.cell h.blk
  have f4 := blk_free h.blk 4
  have f5 := blk_free h.blk 5
  have H := Lib.hid h
  obtain ⟨y, hy⟩ : ∃ y, s.why = y := ⟨_, rfl⟩
  rw [hy] at c4
  by_cases hs : y = 0
  · subst hs
    have HF : Hid (s.fail e p = { s with why := e, place := p }) := Lib.hid (by unfold Ds.fail; rw [if_pos hy])
    clear hy h c0 c1 c2 c3
    go_enter Tryd.func33, Tryd.ntmps33
    go_wp2_with fail
    go_end0
    refine ⟨rfl, ?_⟩
    rw [HF.out]
    exact H.out.upd (((Fr.refl (fun k => k = rb) w).setCell (p := ⟨rb, 4, none⟩) (.inl rfl) _).setCell (p := ⟨rb, 5, none⟩) (.inl rfl) _) (by rw [blk_set (blk_set H.out.blk 4 _) 5 _]; rfl) rfl H.out.le
  · have HF : Hid (s.fail e p = s) := Lib.hid (by unfold Ds.fail; rw [if_neg (by omega)])
    have q : ((y : Int) == 0) = false := by simp; omega
    clear hy h c0 c1 c2 c3 hs
    go_enter Tryd.func33, Tryd.ntmps33
    go_wp2_with fail
    go_end0
    refine ⟨rfl, ?_⟩
    rw [HF.out]
    exact Dw.refl H.out

set_option maxHeartbeats 800000 in
set_option maxRecDepth 100000 in
theorem dtake_ok (B rb : Nat) (bv sv : Value) (bs : List UInt8) (s : Ds) (n : Nat) (hlen : bs.length ≤ 1048576) (hpos : 1 ≤ bs.length) (w : World) (h : Dp B w rb bv sv bs s) (hn : s.pos + n ≤ bs.length) :
    Calls Tryd.prog 43 #[.pointer (some ⟨rb, 0, none⟩), .int .i64 n] w fun r w' => (∃ g off cap, r = .returned (.tuple #[.slice (some ⟨g, off, none⟩) n cap, .bool true]) ∧ RdU B w' 1 (.slice (some ⟨g, off, none⟩) n cap) n (byteCells (rest bs s.pos n))) ∧
      Dw B w rb bv sv bs w' sv { s with pos := s.pos + n } := by
  obtain ⟨c0, c1, c2, c3, c4, c5⟩ := Ds.cell h.blk
  have H := Lib.hid h
  obtain ⟨g, off, cap, rfl, hc1, hc2, hc3⟩ := h.inp.now.at (by omega)
  clear hc3
  obtain ⟨p, hp⟩ : ∃ p, s.pos = p := ⟨_, rfl⟩
  rw [hp] at c1 hn ⊢
  have f1 := blk_free h.blk 1
  obtain ⟨m, hm⟩ : ∃ m, p + n = m := ⟨_, rfl⟩
  have e1 : IntKind.i64.wrap ((p : Int) + (n : Int)) = (m : Int) := by rw [IntKind.wrap_i64]; omega
  have e0 : (p : Int) + (n : Int) = (m : Int) := by omega
  have e4 : IntKind.i64.wrap (m : Int) = (m : Int) := by rw [IntKind.wrap_i64]; omega
  obtain ⟨d, hd⟩ : ∃ d, bs.length - p = d := ⟨_, rfl⟩
  have e2 : IntKind.i64.wrap ((bs.length : Int) - (p : Int)) = (d : Int) := by rw [IntKind.wrap_i64]; omega
  have e3 : (bs.length : Int) - (p : Int) = (d : Int) := by omega
  have q1 : decide ((d : Int) < (n : Int)) = false := decide_eq_false (by omega)
  have q2 : decide (d < n) = false := decide_eq_false (by omega)
  have p0 : (0 : Int) ≤ (p : Int) := by omega
  have p1 : (p : Int) ≤ (m : Int) := by omega
  have p2 : (m : Int) ≤ (cap : Int) := by omega
  have HM := Lib.hid (⟨hm, hd, hn⟩ : p + n = m ∧ bs.length - p = d ∧ p + n ≤ bs.length)
  clear h hm hd hn hp hc1 hc2 c2 c3 c4 c5
  go_enter Tryd.func43, Tryd.ntmps43
  go_wp2_with fail
  go_quiet (fail)
  go_wp2_with fail
  go_quiet (fail)
  go_wp2_with fail
  all_goals
    have hmn : m - p = n := by have := HM.out; omega
    have hset : ∀ q, Dw B w rb (.slice (some ⟨g, off, none⟩) bs.length cap) sv bs ((w.drewN q).setCell ⟨rb, 1, none⟩ (.int .i64 m)) sv { s with pos := p + n } := fun q =>
      H.out.upd (((Fr.refl (fun k => k = rb) w).drewN q).setCell (p := ⟨rb, 1, none⟩) (.inl rfl) _) (by rw [blk_set (w := w.drewN q) (show (w.drewN q).heap[rb]? = _ from H.out.blk) 1 _, HM.out.1]; rfl) rfl (by have := HM.out; show p + n ≤ _; omega)
    have HSET := Lib.hid hset
    have HMN := Lib.hid hmn
    clear hset hmn
    go_ret2
  · subst h
    refine ⟨⟨g, off, 0, by rw [HMN.out]; rfl, ?_⟩, HSET.out _⟩
    have hq := fun q => (H.out.inp.step ((HSET.out q).bel H.out)).part cap n (by have := HM.out; omega) (if_pos rfl)
    simp only [Nat.sub_self] at hq
    exact hq _
  · exact ⟨⟨g, off + p, cap - p, by rw [HMN.out]; rfl, (H.out.inp.step ((HSET.out _).bel H.out)).part p n (by have := HM.out; omega) (if_neg h)⟩, HSET.out _⟩

set_option maxHeartbeats 800000 in
set_option maxRecDepth 100000 in
theorem dtake_short (B rb : Nat) (bv sv : Value) (bs : List UInt8) (s : Ds) (n : Nat) (hlen : bs.length ≤ 1048576) (hnn : n ≤ 1099511627776) (w : World) (h : Dp B w rb bv sv bs s) (hn : bs.length < s.pos + n) :
    Calls Tryd.prog 43 #[.pointer (some ⟨rb, 0, none⟩), .int .i64 n] w fun r w' => r = .returned (.tuple #[.slice none 0 0, .bool false]) ∧ Dw B w rb bv sv bs w' sv (s.fail 62 bs.length) := by
  obtain ⟨c0, c1, c2, c3, c4, c5⟩ := Ds.cell h.blk
  obtain ⟨ao, cap, rfl, hc1, hc2⟩ := h.inp.now.shape
  have hle := h.le
  have HFA : Hid (∀ q, Calls Tryd.prog 33 #[.pointer (some ⟨rb, 0, none⟩), .int .i64 62, .int .i64 bs.length] (w.drewN q) fun r w' => r = .returned (.tuple #[]) ∧ Dw B w rb (.slice ao bs.length cap) sv bs w' sv (s.fail 62 bs.length)) := Lib.hid (fun q =>
    (dfail_any B rb _ sv bs s 62 bs.length (w.drewN q) (h.below (bel_drewN (Below.refl _ _) q))).mono fun r w' hr => ⟨hr.1, Dw.behind (bel_drewN (Below.refl _ _) q) hr.2⟩)
  obtain ⟨p, hp⟩ : ∃ p, s.pos = p := ⟨_, rfl⟩
  rw [hp] at c1 hn hle
  obtain ⟨d, hd⟩ : ∃ d, bs.length - p = d := ⟨_, rfl⟩
  have e2 : IntKind.i64.wrap ((bs.length : Int) - (p : Int)) = (d : Int) := by rw [IntKind.wrap_i64]; omega
  have e3 : (bs.length : Int) - (p : Int) = (d : Int) := by omega
  have q1 : decide ((d : Int) < (n : Int)) = true := decide_eq_true (by omega)
  have q2 : decide (d < n) = true := decide_eq_true (by omega)
  clear h hd hn hp hc1 hc2 c2 c3 c4 c5 hle
  go_enter Tryd.func43, Tryd.ntmps43
  go_wp2_with fail
  go_quiet (fail)
  go_wp2_with fail
  refine (HFA.out _).mono ?_
  rintro e w1 ⟨rfl, h1⟩
  have H1 := Lib.hid h1
  clear h1
  go_wp2_with fail
  go_ret2
  exact ⟨rfl, H1.out⟩

set_option maxHeartbeats 800000 in
set_option maxRecDepth 100000 in
theorem dcount_any (B rb : Nat) (bv sv : Value) (bs : List UInt8) (s : Ds) (n at' : Nat) (w : World) (h : Dp B w rb bv sv bs s) (hc : s.cells ≤ 1024) (hn : n ≤ 1099511627776) :
    Calls Tryd.prog 78 #[.pointer (some ⟨rb, 0, none⟩), .int .i64 n, .int .i64 at'] w fun r w' => r = .returned (.tuple #[]) ∧ Dw B w rb bv sv bs w' sv (s.count n at') := by
  obtain ⟨c0, c1, c2, c3, c4, c5⟩ := Ds.cell h.blk
  have f3 := blk_free h.blk 3
  have H := Lib.hid h
  have HFA := Lib.hid (dfail_any B rb bv sv bs s 7 at' w h)
  obtain ⟨m, hm⟩ : ∃ m, s.cells = m := ⟨_, rfl⟩
  rw [hm] at c3 hc
  obtain ⟨d, hd⟩ : ∃ d, m + n = d := ⟨_, rfl⟩
  have e2 : IntKind.i64.wrap ((m : Int) + (n : Int)) = (d : Int) := by rw [IntKind.wrap_i64]; omega
  have e3 : (m : Int) + (n : Int) = (d : Int) := by omega
  have e4 : IntKind.i64.wrap (d : Int) = (d : Int) := by rw [IntKind.wrap_i64]; omega
  have hdb : d ≤ 1099511628800 := by omega
  by_cases hb : 1024 < d
  · have HF : Hid (s.count n at' = s.fail 7 at') := Lib.hid (by unfold Ds.count; rw [if_pos (by omega)])
    have q1 : decide ((1024 : Int) < (d : Int)) = true := decide_eq_true (by omega)
    have q2 : decide (1024 < d) = true := decide_eq_true (by omega)
    clear h hm hd hc c0 c1 c2 c4 c5
    go_enter Tryd.func78, Tryd.ntmps78
    go_wp2_with fail
    refine (HFA.out).mono ?_
    rintro e w1 ⟨rfl, h1⟩
    have H1 := Lib.hid h1
    clear h1
    go_wp2_with fail
    refine bodyPost_ret (results_none rfl _ _ _) rfl ⟨rfl, ?_⟩
    rw [HF.out]
    exact H1.out
  · have HF : Hid (s.count n at' = { s with cells := d }) := Lib.hid (by unfold Ds.count; rw [if_neg (by omega), hm, hd])
    have q1 : decide ((1024 : Int) < (d : Int)) = false := decide_eq_false (by omega)
    have q2 : decide (1024 < d) = false := decide_eq_false (by omega)
    clear h hm hd hc c0 c1 c2 c4 c5
    go_enter Tryd.func78, Tryd.ntmps78
    go_wp2_with fail
    go_end0
    refine ⟨rfl, ?_⟩
    rw [HF.out]
    exact H.out.upd ((Fr.refl (fun k => k = rb) w).setCell (p := ⟨rb, 3, none⟩) (.inl rfl) _) (by rw [blk_set H.out.blk 3 _]; rfl) rfl H.out.le
end Go.Proofs.YtkhjdcnlpablkaaDoor

/-! The document's reader: a number; one more cell. Printed by genDlf.py. -/
namespace Go.Proofs.YtkhjdcnlpablkaaDoor
open Go.RowKit
open Go.Lib (byteCells)

/-- A fault has been told. -/
def DEr (B : Nat) (w : World) (rb : Nat) (bv sv : Value) (bs : List UInt8) (e p : Nat) (w' : World) : Prop := ∃ sv' s', Dw B w rb bv sv bs w' sv' s' ∧ s'.why = e ∧ s'.place = p ∧ e ≠ 0
section
variable {B rb : Nat} {w w' w2 : World} {bv sv sv' : Value} {bs : List UInt8} {s s' : Ds} {e p : Nat}
theorem DEr.fail (h : Dw B w rb bv sv bs w' sv' (s.fail e p)) (hs : s.why = 0) (he : e ≠ 0) : DEr B w rb bv sv bs e p w' := by
  rw [Ds.fail_zero hs] at h
  exact ⟨_, _, h, rfl, rfl, he⟩
theorem DEr.behind (h : Dw B w rb bv sv bs w' sv' s') (k : DEr B w' rb bv sv' bs e p w2) : DEr B w rb bv sv bs e p w2 := by
  obtain ⟨sv2, s2, h1, h2⟩ := k
  exact ⟨sv2, s2, h.trans h1, h2⟩
theorem DEr.back (hb : Below w.heap.size w w') (k : DEr B w' rb bv sv bs e p w2) : DEr B w rb bv sv bs e p w2 := by
  obtain ⟨sv2, s2, h1, h2⟩ := k
  exact ⟨sv2, s2, Dw.behind hb h1, h2⟩
theorem DEr.below (k : DEr B w rb bv sv bs e p w') (hb : Below w'.heap.size w' w2) : DEr B w rb bv sv bs e p w2 := by
  obtain ⟨sv2, s2, h1, h2⟩ := k
  exact ⟨sv2, s2, h1.below hb, h2⟩
end

set_option maxHeartbeats 800000 in
set_option maxRecDepth 100000 in
theorem dnum_ok (B rb : Nat) (bv sv : Value) (bs : List UInt8) (s : Ds) (n : Nat) (hlen : bs.length ≤ 1048576) (hpos : 1 ≤ bs.length) (hn4 : n ≤ 4) (w : World) (h : Dp B w rb bv sv bs s) (hn : s.pos + n ≤ bs.length) :
    Calls Tryd.prog 42 #[.pointer (some ⟨rb, 0, none⟩), .int .i64 n] w fun r w' => r = .returned (.tuple #[.int .i64 (beN (rest bs s.pos n)), .bool true]) ∧ Dw B w rb bv sv bs w' sv { s with pos := s.pos + n } := by
  have H := Lib.hid (dtake_ok B rb bv sv bs s n hlen hpos w h hn)
  have hrl := rest_len hn
  obtain ⟨R, hR⟩ : ∃ R, rest bs s.pos n = R := ⟨_, rfl⟩
  rw [hR] at H hrl ⊢
  have HRL := Lib.hid hrl
  clear h hR hrl hn
  go_enter Tryd.func42, Tryd.ntmps42
  go_wp2_with fail
  refine (H.out).mono ?_
  rintro e w1 ⟨⟨g, off, cap, rfl, hrd⟩, h1⟩
  have HRD := Lib.hid hrd.now
  have H1 := Lib.hid h1
  clear h1 hrd
  go_wp2_with fail
  go_loopg [8, 10, 19] n (fun g s8 _ s19 wr => ∃ k : Nat, k + g = n ∧ s19 = .int .i64 k ∧ s8 = .int .i64 (beN (R.take k)) ∧ wr = w1)
  case atStart => exact ⟨0, by omega, rfl, by simp [beN], rfl⟩
  case round =>
    obtain ⟨k, hk, rfl, rfl, rfl⟩ := hrel
    cases gk with
    | zero =>
      obtain rfl : k = n := by omega
      have HT : Hid (R.take k = R) := Lib.hid (List.take_of_length_le (by rw [HRL.out]; omega))
      rw [HT.out]
      go_wp2_with fail
      go_ret2
      exact ⟨rfl, H1.out⟩
    | succ g' =>
      have hkn : k < R.length := by have := HRL.out; omega
      obtain ⟨c, hc⟩ : ∃ c, R[k]? = some c := ⟨R[k], List.getElem?_eq_getElem _⟩
      obtain ⟨g0, off0, cap0, hv, hq1, hq2, hq3⟩ := HRD.out.at (by omega)
      simp at hv
      obtain ⟨⟨rfl, rfl⟩, rfl⟩ := hv
      have hck := hq3 k (by omega)
      have hbk : (byteCells R)[k]? = some (.int .u8 c.toNat) := by unfold byteCells; rw [List.getElem?_map, hc]; rfl
      rw [hbk] at hck
      clear hq1 hq2 hq3 hbk
      have hb := beN_lt (R.take k)
      have hb2 : (256 : Nat) ^ (R.take k).length ≤ 256 ^ 3 := Nat.pow_le_pow_right (by omega) (by rw [List.length_take]; omega)
      obtain ⟨x, hx⟩ : ∃ x, beN (R.take k) = x := ⟨_, rfl⟩
      rw [hx] at hb ⊢
      have hx3 : x < 16777216 := by omega
      have hcb := UInt8.toNat_lt c
      obtain ⟨y, hy⟩ : ∃ y, c.toNat = y := ⟨_, rfl⟩
      rw [hy] at hck hcb
      have HN : Hid (beN (R.take (k + 1)) = x * 256 + y) := Lib.hid (by
        rw [List.take_add_one, hc, Option.toList_some, beN_snoc, hx, hy])
      clear hb hb2 hx hy hc
      have hkz : (k : Int) < (n : Int) := by omega
      go_wp2_with fail
      go_roundg g'
      case measure => omega
      case rel => exact ⟨k + 1, by omega, by go_num, by rw [HN.out]; first | rfl | (congr 1; omega), rfl⟩

set_option maxHeartbeats 800000 in
set_option maxRecDepth 100000 in
theorem dnum_short (B rb : Nat) (bv sv : Value) (bs : List UInt8) (s : Ds) (n : Nat) (hlen : bs.length ≤ 1048576) (hn4 : n ≤ 4) (w : World) (h : Dp B w rb bv sv bs s) (hn : bs.length < s.pos + n) :
    Calls Tryd.prog 42 #[.pointer (some ⟨rb, 0, none⟩), .int .i64 n] w fun r w' => r = .returned (.tuple #[.int .i64 0, .bool false]) ∧ Dw B w rb bv sv bs w' sv (s.fail 62 bs.length) := by
  have H := Lib.hid (dtake_short B rb bv sv bs s n hlen (by omega) w h hn)
  clear h hn
  go_enter Tryd.func42, Tryd.ntmps42
  go_wp2_with fail
  refine (H.out).mono ?_
  rintro e w1 ⟨rfl, h1⟩
  have H1 := Lib.hid h1
  clear h1
  go_wp2_with fail
  go_loopg [8, 10, 19] 0 (fun g s8 _ s19 wr => s8 = .int .i64 0 ∧ s19 = .int .i64 0 ∧ wr = w1)
  case atStart => exact ⟨rfl, rfl, rfl⟩
  case round =>
    obtain ⟨rfl, rfl, rfl⟩ := hrel
    go_wp2_with fail
    go_ret2
    exact ⟨rfl, H1.out⟩

/-- A number, by what it is. -/
theorem dnum_any (B rb : Nat) (bv sv : Value) (bs : List UInt8) (s : Ds) (n : Nat) (hlen : bs.length ≤ 1048576) (hpos : 1 ≤ bs.length) (hn4 : n ≤ 4) (w : World) (h : Dp B w rb bv sv bs s) (hs : s.why = 0) :
    Calls Tryd.prog 42 #[.pointer (some ⟨rb, 0, none⟩), .int .i64 n] w fun r w' => ResP (numD bs s.pos n) (fun v => r = .returned (.tuple #[.int .i64 v, .bool true]) ∧ Dw B w rb bv sv bs w' sv { s with pos := s.pos + n })
      (fun e p => r = .returned (.tuple #[.int .i64 0, .bool false]) ∧ DEr B w rb bv sv bs e p w') := by
  by_cases hn : s.pos + n ≤ bs.length
  · have : numD bs s.pos n = .ok (beN (rest bs s.pos n)) := by unfold numD; rw [if_neg (by omega)]
    exact (dnum_ok B rb bv sv bs s n hlen hpos hn4 w h hn).mono fun r w' hr => ResP.okI this hr
  · have : numD bs s.pos n = .bad 62 bs.length := by unfold numD; rw [if_pos (by omega)]
    exact (dnum_short B rb bv sv bs s n hlen hn4 w h (by omega)).mono fun r w' hr => ResP.badI this ⟨hr.1, .fail hr.2 hs (by omega)⟩
/-- So many bytes, by what they are. -/
theorem dtake_any (B rb : Nat) (bv sv : Value) (bs : List UInt8) (s : Ds) (n : Nat) (hlen : bs.length ≤ 1048576) (hpos : 1 ≤ bs.length) (hnn : n ≤ 1099511627776) (w : World) (h : Dp B w rb bv sv bs s) (hs : s.why = 0) :
    Calls Tryd.prog 43 #[.pointer (some ⟨rb, 0, none⟩), .int .i64 n] w fun r w' => ResP (takeD bs s.pos n) (fun l => l.length = n ∧ (∃ g off cap, r = .returned (.tuple #[.slice (some ⟨g, off, none⟩) n cap, .bool true]) ∧ RdU B w' 1 (.slice (some ⟨g, off, none⟩) n cap) n (byteCells l)) ∧ Dw B w rb bv sv bs w' sv { s with pos := s.pos + n })
      (fun e p => r = .returned (.tuple #[.slice none 0 0, .bool false]) ∧ DEr B w rb bv sv bs e p w') := by
  by_cases hn : s.pos + n ≤ bs.length
  · have : takeD bs s.pos n = .ok (rest bs s.pos n) := by unfold takeD; rw [if_neg (by omega)]
    exact (dtake_ok B rb bv sv bs s n hlen hpos w h hn).mono fun r w' hr => ResP.okI this ⟨rest_len hn, hr⟩
  · have : takeD bs s.pos n = .bad 62 bs.length := by unfold takeD; rw [if_pos (by omega)]
    exact (dtake_short B rb bv sv bs s n hlen hnn w h (by omega)).mono fun r w' hr => ResP.badI this ⟨hr.1, .fail hr.2 hs (by omega)⟩

/-- A cell is put behind the others. -/
theorem Dp.app {B : Nat} {w w3 : World} {rb : Nat} {bv sv : Value} {bs : List UInt8} {s : Ds} (h : Dp B w rb bv sv bs s) {v' : Value} {c : List Ce} {n' : Nat} (hn : n' = (s.out ++ c).length) (hs : Sl w3 60 3 v' n' (cvs s.out ++ cvs c)) (hf : Fr (fun k => sv.ownBlock = some k) w w3)
    (hv : v'.ownBlock = sv.ownBlock ∨ ∀ k, v'.ownBlock = some k → w.heap.size ≤ k) : Dw B w rb bv sv bs (w3.setCell ⟨rb, 2, none⟩ v') v' { s with out := s.out ++ c } := by
  have hne := h.sl.ne (c := #[bv, .int .i64 s.pos, sv, .int .i64 s.cells, .int .i64 s.why, .int .i64 s.place]) h.blk (by decide)
  have hb3 : w3.heap[rb]? = some (s.blk bv sv) := hf.at h.blk (fun e => hne _ e rfl)
  have hv' : ∀ k, v'.ownBlock = some k → sv.ownBlock = some k ∨ w.heap.size ≤ k := fun k hk => by
    rcases hv with e | e
    · exact .inl (e ▸ hk)
    · exact .inr (e k hk)
  have hF := (hf.mono (G := fun k => k = rb ∨ sv.ownBlock = some k) fun k hk => .inr hk).setCell (p := ⟨rb, 2, none⟩) (.inl (.inl rfl)) v'
  refine ⟨⟨by rw [blk_set hb3 2 _]; rfl, ?_, h.inp.step (hF.below h.Ble fun k hk => ?_), h.hB, fun k hk => ?_, h.le⟩, hF, hv'⟩
  · rw [cvs_app, ← hn]
    exact hs.set_other v' (hs.ne (c := #[bv, .int .i64 s.pos, sv, .int .i64 s.cells, .int .i64 s.why, .int .i64 s.place]) hb3 (by decide))
  · rcases hk with rfl | e
    · exact h.hB
    · exact h.own k e
  · rcases hv' k hk with e | e
    · exact h.own k e
    · have := h.Ble; omega

set_option maxHeartbeats 3200000 in
set_option maxRecDepth 100000 in
theorem dleaf_any (B rb : Nat) (bv sv : Value) (bs : List UInt8) (s : Ds) (k n : Int) (str : ByteArray) (at' : Nat) (w : World) (h : Dp B w rb bv sv bs s) (hc : s.cells ≤ 1024) (hol : s.out.length ≤ 10000000) :
    Calls Tryd.prog 56 #[.pointer (some ⟨rb, 0, none⟩), .agg #[.int .i64 k, .int .i64 n, .string str], .int .i64 at'] w fun r w' => r = .returned (.tuple #[]) ∧
      ∃ sv', Dw B w rb bv sv bs w' sv' { s.count 1 at' with out := s.out ++ [⟨k, n, str⟩] } := by
  obtain ⟨i0, hinf, hz0, hz1, hz2⟩ := info_parts Tryd.info60
  obtain ⟨n0, hn0⟩ : ∃ n0, s.out.length = n0 := ⟨_, rfl⟩
  have hsl0 := h.sl
  rw [hn0] at hsl0 hol
  obtain ⟨ao, cap, rfl, hcap, hmax⟩ := hsl0.shape
  unfold maxLen at hmax
  clear hsl0
  have hA := h.below (bel_box w (.cells #[.int .i64 k, .int .i64 n, .string str] 60))
  have hbel := bel_box w (.cells #[.int .i64 k, .int .i64 n, .string str] 60)
  have hlt := h.lt
  have hbox := heap_alloc_new w (.cells #[.int .i64 k, .int .i64 n, .string str] 60)
  have hbn : ∀ q, (Value.slice ao n0 cap).ownBlock = some q → q < w.heap.size := fun q hq => h.sl.lt q hq
  have hso : (s.count 1 at').out = s.out := by unfold Ds.count Ds.fail; split <;> (try split) <;> rfl
  have HC := Lib.hid (dcount_any B rb bv (.slice ao n0 cap) bs s 1 at' _ hA hc (by omega))
  obtain ⟨s1, hs1⟩ : ∃ s1, s.count 1 at' = s1 := ⟨_, rfl⟩
  rw [hs1] at HC hso ⊢
  have HN0 : Hid (s1.out.length = n0) := Lib.hid (by rw [hso, hn0])
  rw [← hso]
  have HBEL := Lib.hid hbel
  have HBOX := Lib.hid hbox
  clear h hA hs1 hn0 hso hbel hbox hc
  go_enter Tryd.func56, Tryd.ntmps56
  go_wp2_with fail
  refine (HC.out).mono ?_
  rintro r w1 ⟨rfl, h1⟩
  have hbx : w1.heap[w.heap.size]? = some (.cells #[.int .i64 k, .int .i64 n, .string str] 60) := h1.fr.at HBOX.out (fun e => by
    rcases e with e | e
    · omega
    · exact absurd (hbn _ e) (Nat.lt_irrefl _))
  have hU : Dw B w rb bv (.slice ao n0 cap) bs w1 (.slice ao n0 cap) s1 := h1.behind HBEL.out
  have HU := Lib.hid hU
  have HBX := Lib.hid hbx
  clear h1 hU hbx HBOX HBEL HC
  go_wp2_with fail
  have hU := HU.out
  have hbx := HBX.out
  have hbl : w.heap.size < w1.heap.size := blk_lt hbx
  have b0 := blk_cell hbx 0
  have b1 := blk_cell hbx 1
  have b2 := blk_cell hbx 2
  simp at b0 b1 b2
  refine wp_region_ord (Ord.take 0 (.take 1 (.take 2 (.take 3 (.take 5 (.fork 4 6 (.alone 6 (.alone 7 (.take 8 (.take 9 (.alone 10 .done))))) (.alone 4 (.alone 7 (.take 8 (.take 9 (.alone 10 .done)))))))))))
    (fun W => W.cell? ⟨w.heap.size, 0, none⟩ = some (.int .i64 k) ∧ W.cell? ⟨w.heap.size, 1, none⟩ = some (.int .i64 n) ∧ W.cell? ⟨w.heap.size, 2, none⟩ = some (.string str)) (by kernel_rfl) (by kernel_rfl) (by kernel_rfl) (fun c a d v w h => by cases d <;> exact h) ⟨b0, b1, b2⟩ ?_
  have HBX2 := Lib.hid (show w1.drew.heap[w.heap.size]? = some (.cells #[.int .i64 k, .int .i64 n, .string str] 60) from hbx)
  clear hU hbx b0 b1 b2
  have hbd := HBX2.out
  have hU : Dw B w rb bv (.slice ao n0 cap) bs w1.drew (.slice ao n0 cap) s1 := HU.out.below ((Below.refl _ _).drew)
  have hbl2 : w.heap.size < w1.drew.heap.size := hbl
  clear HU hbl HBX2 HBX
  generalize w1.drew = w2 at hU hbl2 hbd ⊢
  have hT : w2.cell? ⟨w.heap.size, 0, none⟩ = some (.int .i64 k) ∧ w2.cell? ⟨w.heap.size, 1, none⟩ = some (.int .i64 n) ∧ w2.cell? ⟨w.heap.size, 2, none⟩ = some (.string str) := by
    have b0 := blk_cell hbd 0
    have b1 := blk_cell hbd 1
    have b2 := blk_cell hbd 2
    simp at b0 b1 b2
    exact ⟨b0, b1, b2⟩
  have hba : (w2.alloc (.cells #[.int .i64 k, .int .i64 n, .string str] 60)).heap[w.heap.size]? = some (.cells #[.int .i64 k, .int .i64 n, .string str] 60) := by
    rw [(bel_box w2 (.cells #[.int .i64 k, .int .i64 n, .string str] 60)).block _ hbl2]; exact hbd
  have hT' : (w2.alloc (.cells #[.int .i64 k, .int .i64 n, .string str] 60)).cell? ⟨w.heap.size, 0, none⟩ = some (.int .i64 k) ∧ (w2.alloc (.cells #[.int .i64 k, .int .i64 n, .string str] 60)).cell? ⟨w.heap.size, 1, none⟩ = some (.int .i64 n) ∧ (w2.alloc (.cells #[.int .i64 k, .int .i64 n, .string str] 60)).cell? ⟨w.heap.size, 2, none⟩ = some (.string str) := by
    have b0 := blk_cell hba 0
    have b1 := blk_cell hba 1
    have b2 := blk_cell hba 2
    simp at b0 b1 b2
    exact ⟨b0, b1, b2⟩
  have HT := Lib.hid hT
  have HT' := Lib.hid hT'
  have HBA := Lib.hid hba
  clear hT hT' hba hbd
  have c4 := (Ds.cell hU.rp.blk).2.2.1
  have hA2 : Dw B w rb bv (.slice ao n0 cap) bs (w2.alloc (.cells #[.int .i64 k, .int .i64 n, .string str] 60)) (.slice ao n0 cap) s1 := hU.below (bel_box _ _)
  have c4' := (Ds.cell hA2.rp.blk).2.2.1
  have hsl := hA2.rp.sl
  rw [HN0.out] at hsl
  have HA2 := Lib.hid hA2
  have HSL := Lib.hid hsl
  clear hU hA2 hsl
  refine ord_take (o := ⟨some 9, _, _, _, _, none⟩) _ rfl (by rfl) (fun W hW => by (go_simp; with_reducible rfl)) ?_
  simp only [Act.put, List.setIfInBounds_toArray, List.set_cons_zero, List.set_cons_succ]
  refine ord_take (o := ⟨some 10, _, _, _, _, none⟩) _ rfl (by rfl) (fun W hW => by (go_simp; with_reducible rfl)) ?_
  simp only [Act.put, List.setIfInBounds_toArray, List.set_cons_zero, List.set_cons_succ]
  refine ord_take (o := ⟨some 11, _, _, _, _, none⟩) _ rfl (by rfl) (fun W hW => by (go_simp; with_reducible rfl)) ?_
  simp only [Act.put, List.setIfInBounds_toArray, List.set_cons_zero, List.set_cons_succ]
  refine ord_take (o := ⟨some 12, _, _, _, _, none⟩) _ rfl (by rfl) (fun W hW => by (go_simp; with_reducible rfl)) ?_
  simp only [Act.put, List.setIfInBounds_toArray, List.set_cons_zero, List.set_cons_succ]
  refine ord_take (o := ⟨some 14, _, _, _, _, none⟩) _ rfl (by rfl) (fun W hW => by (obtain ⟨e1, e2, e3⟩ := hW; go_simp; with_reducible rfl)) ?_
  simp only [Act.put, List.setIfInBounds_toArray, List.set_cons_zero, List.set_cons_succ]
  refine ord_fork (oi := ⟨some 13, _, _, _, _, none⟩) (oj := ⟨some 15, _, _, _, _, none⟩) rfl rfl (by rfl) (by rfl) (fun K hK => ?_) (fun K hK => ?_)
  · go_simp
    refine hK _ _ HT.out ?_
    clear hK K
    refine ord_alone (o := ⟨some 15, _, _, _, _, none⟩) rfl (by rfl) (fun K hK => ?_)
    go_simp
    refine hK _ _ HT'.out ?_
    clear hK K
    refine ord_alone (o := ⟨some 16, _, _, _, _, none⟩) rfl (by rfl) (fun K hK => ?_)
    refine wp_append_sl (.tmp 13) (.tmp 15) 24 rfl 60 i0 (.agg #[.int .i64 0, .int .i64 0, .string ByteArray.empty]) 3 32 Tryd.underlying24 hinf hz0 hz1 hz2 rfl (by decide) (.slice ao n0 cap) n0 (cvs s1.out) rfl HSL.out ⟨w2.heap.size, 0, none⟩ 1 1 (cv ⟨k, n, str⟩) rfl rfl (cells_new3 w2 ⟨k, n, str⟩) (cv_one ⟨k, n, str⟩) (by unfold maxLen; omega) (by omega) ?_
    intro v' w3 hs3 hf3 hv3
    obtain ⟨ao', cap', rfl, _, _⟩ := hs3.shape
    rw [← cvs_one] at hs3
    have hq := HA2.out.rp.app (c := [⟨k, n, str⟩]) (n' := n0 + 1) (by rw [List.length_append, HN0.out]; rfl) hs3 hf3 (hv3.imp id (fun e k hk => by rw [e] at hk; cases hk; exact Nat.le_refl _))
    have hne : w.heap.size ≠ rb := by omega
    have hb3 : w3.heap[w.heap.size]? = some (.cells #[.int .i64 k, .int .i64 n, .string str] 60) := hf3.at HBA.out (fun e => absurd (hbn _ e) (Nat.lt_irrefl _))
    have hb4 : (w3.setCell ⟨rb, 2, none⟩ (.slice ao' (n0 + 1) cap')).heap[w.heap.size]? = some (.cells #[.int .i64 k, .int .i64 n, .string str] 60) := (Below.heap_setCell _ _ _ _ hne).trans hb3
    have g0 : w3.cell? ⟨w.heap.size, 0, none⟩ = some (.int .i64 k) := blk_cell hb3 0
    have g1 : w3.cell? ⟨w.heap.size, 1, none⟩ = some (.int .i64 n) := blk_cell hb3 1
    have g2 : w3.cell? ⟨w.heap.size, 2, none⟩ = some (.string str) := blk_cell hb3 2
    have e0 : (w3.setCell ⟨rb, 2, none⟩ (.slice ao' (n0 + 1) cap')).cell? ⟨w.heap.size, 0, none⟩ = some (.int .i64 k) := blk_cell hb4 0
    have e1' : (w3.setCell ⟨rb, 2, none⟩ (.slice ao' (n0 + 1) cap')).cell? ⟨w.heap.size, 1, none⟩ = some (.int .i64 n) := blk_cell hb4 1
    have e2' : (w3.setCell ⟨rb, 2, none⟩ (.slice ao' (n0 + 1) cap')).cell? ⟨w.heap.size, 2, none⟩ = some (.string str) := blk_cell hb4 2
    have HE := Lib.hid (⟨e0, e1', e2'⟩ : _ ∧ _ ∧ _)
    have hrb : w3.heap[rb]? = some (Ds.blk bv (.slice ao n0 cap) s1) := hf3.at HA2.out.rp.blk (fun e => (HSL.out.ne (c := #[bv, .int .i64 s1.pos, .slice ao n0 cap, .int .i64 s1.cells, .int .i64 s1.why, .int .i64 s1.place]) HA2.out.rp.blk (by decide)) _ e rfl)
    have f4 := blk_free hrb 2
    have c43 := (Ds.cell hrb).2.2.1
    have HQ := Lib.hid hq
    clear hs3 hf3 hv3 hq hb3 hb4 hrb e0 e1' e2'
    refine hK _ _ ⟨g0, g1, g2⟩ ?_
    clear hK K g0 g1 g2 c4 c4'
    simp only [Act.put, List.setIfInBounds_toArray, List.set_cons_zero, List.set_cons_succ]
    refine ord_take (o := ⟨some 17, _, _, _, _, none⟩) _ rfl (by rfl) (fun W hW => by (go_simp; with_reducible rfl)) ?_
    simp only [Act.put, List.setIfInBounds_toArray, List.set_cons_zero, List.set_cons_succ]
    refine ord_take (o := ⟨some 18, _, _, _, _, none⟩) _ rfl (by rfl) (fun W hW => by (go_simp; with_reducible rfl)) ?_
    simp only [Act.put, List.setIfInBounds_toArray, List.set_cons_zero, List.set_cons_succ]
    refine ord_alone (o := ⟨none, _, _, _, _, none⟩) rfl (by rfl) (fun K hK => ?_)
    go_simp
    refine hK _ _ HE.out ?_
    clear hK K
    refine ord_done ?_
    go_wp2_with fail
    go_end0
    exact ⟨rfl, _, HA2.out.trans HQ.out⟩
  · go_simp
    refine hK _ _ HT'.out ?_
    clear hK K
    refine ord_alone (o := ⟨some 13, _, _, _, _, none⟩) rfl (by rfl) (fun K hK => ?_)
    go_simp
    refine hK _ _ HT'.out ?_
    clear hK K
    refine ord_alone (o := ⟨some 16, _, _, _, _, none⟩) rfl (by rfl) (fun K hK => ?_)
    refine wp_append_sl (.tmp 13) (.tmp 15) 24 rfl 60 i0 (.agg #[.int .i64 0, .int .i64 0, .string ByteArray.empty]) 3 32 Tryd.underlying24 hinf hz0 hz1 hz2 rfl (by decide) (.slice ao n0 cap) n0 (cvs s1.out) rfl HSL.out ⟨w2.heap.size, 0, none⟩ 1 1 (cv ⟨k, n, str⟩) rfl rfl (cells_new3 w2 ⟨k, n, str⟩) (cv_one ⟨k, n, str⟩) (by unfold maxLen; omega) (by omega) ?_
    intro v' w3 hs3 hf3 hv3
    obtain ⟨ao', cap', rfl, _, _⟩ := hs3.shape
    rw [← cvs_one] at hs3
    have hq := HA2.out.rp.app (c := [⟨k, n, str⟩]) (n' := n0 + 1) (by rw [List.length_append, HN0.out]; rfl) hs3 hf3 (hv3.imp id (fun e k hk => by rw [e] at hk; cases hk; exact Nat.le_refl _))
    have hne : w.heap.size ≠ rb := by omega
    have hb3 : w3.heap[w.heap.size]? = some (.cells #[.int .i64 k, .int .i64 n, .string str] 60) := hf3.at HBA.out (fun e => absurd (hbn _ e) (Nat.lt_irrefl _))
    have hb4 : (w3.setCell ⟨rb, 2, none⟩ (.slice ao' (n0 + 1) cap')).heap[w.heap.size]? = some (.cells #[.int .i64 k, .int .i64 n, .string str] 60) := (Below.heap_setCell _ _ _ _ hne).trans hb3
    have g0 : w3.cell? ⟨w.heap.size, 0, none⟩ = some (.int .i64 k) := blk_cell hb3 0
    have g1 : w3.cell? ⟨w.heap.size, 1, none⟩ = some (.int .i64 n) := blk_cell hb3 1
    have g2 : w3.cell? ⟨w.heap.size, 2, none⟩ = some (.string str) := blk_cell hb3 2
    have e0 : (w3.setCell ⟨rb, 2, none⟩ (.slice ao' (n0 + 1) cap')).cell? ⟨w.heap.size, 0, none⟩ = some (.int .i64 k) := blk_cell hb4 0
    have e1' : (w3.setCell ⟨rb, 2, none⟩ (.slice ao' (n0 + 1) cap')).cell? ⟨w.heap.size, 1, none⟩ = some (.int .i64 n) := blk_cell hb4 1
    have e2' : (w3.setCell ⟨rb, 2, none⟩ (.slice ao' (n0 + 1) cap')).cell? ⟨w.heap.size, 2, none⟩ = some (.string str) := blk_cell hb4 2
    have HE := Lib.hid (⟨e0, e1', e2'⟩ : _ ∧ _ ∧ _)
    have hrb : w3.heap[rb]? = some (Ds.blk bv (.slice ao n0 cap) s1) := hf3.at HA2.out.rp.blk (fun e => (HSL.out.ne (c := #[bv, .int .i64 s1.pos, .slice ao n0 cap, .int .i64 s1.cells, .int .i64 s1.why, .int .i64 s1.place]) HA2.out.rp.blk (by decide)) _ e rfl)
    have f4 := blk_free hrb 2
    have c43 := (Ds.cell hrb).2.2.1
    have HQ := Lib.hid hq
    clear hs3 hf3 hv3 hq hb3 hb4 hrb e0 e1' e2'
    refine hK _ _ ⟨g0, g1, g2⟩ ?_
    clear hK K g0 g1 g2 c4 c4'
    simp only [Act.put, List.setIfInBounds_toArray, List.set_cons_zero, List.set_cons_succ]
    refine ord_take (o := ⟨some 17, _, _, _, _, none⟩) _ rfl (by rfl) (fun W hW => by (go_simp; with_reducible rfl)) ?_
    simp only [Act.put, List.setIfInBounds_toArray, List.set_cons_zero, List.set_cons_succ]
    refine ord_take (o := ⟨some 18, _, _, _, _, none⟩) _ rfl (by rfl) (fun W hW => by (go_simp; with_reducible rfl)) ?_
    simp only [Act.put, List.setIfInBounds_toArray, List.set_cons_zero, List.set_cons_succ]
    refine ord_alone (o := ⟨none, _, _, _, _, none⟩) rfl (by rfl) (fun K hK => ?_)
    go_simp
    refine hK _ _ HE.out ?_
    clear hK K
    refine ord_done ?_
    go_wp2_with fail
    go_end0
    exact ⟨rfl, _, HA2.out.trans HQ.out⟩

/-- A leaf, by whether there is room. -/
def DOk (B : Nat) (w : World) (rb : Nat) (bv sv : Value) (bs : List UInt8) (w' : World) (x : Rs) : Prop := ∃ sv' s', Dw B w rb bv sv bs w' sv' s' ∧ s'.why = 0 ∧ s'.rs = x
theorem dleaf_made (B rb : Nat) (bv sv : Value) (bs : List UInt8) (s : Ds) (k n : Int) (str : ByteArray) (at' : Nat) (w : World) (h : Dp B w rb bv sv bs s) (hs : s.why = 0) (hc : s.cells ≤ 1024) (hol : s.out.length ≤ 10000000) :
    Calls Tryd.prog 56 #[.pointer (some ⟨rb, 0, none⟩), .agg #[.int .i64 k, .int .i64 n, .string str], .int .i64 at'] w fun r w' => r = .returned (.tuple #[]) ∧
      ResP (madeD s.rs s.pos at' ⟨k, n, str⟩) (fun x => DOk B w rb bv sv bs w' x.1) (fun e p => DEr B w rb bv sv bs e p w') := by
  refine (dleaf_any B rb bv sv bs s k n str at' w h hc hol).mono fun r w' hr => ⟨hr.1, ?_⟩
  obtain ⟨sv', h1⟩ := hr.2
  by_cases hb : 1024 < s.cells + 1
  · have : madeD s.rs s.pos at' ⟨k, n, str⟩ = .bad 7 at' := by unfold madeD; exact if_pos hb
    refine ResP.badI this ⟨sv', _, h1, ?_, ?_, by omega⟩ <;> simp only [Ds.count, if_pos hb, Ds.fail_zero hs]
  · have : madeD s.rs s.pos at' ⟨k, n, str⟩ = .ok (⟨s.pos, s.cells + 1, s.out ++ [⟨k, n, str⟩]⟩, 0, false) := by unfold madeD; exact if_neg hb
    refine ResP.okI this ⟨sv', _, h1, ?_, ?_⟩ <;> simp only [Ds.count, if_neg hb, hs, Ds.rs]
end Go.Proofs.YtkhjdcnlpablkaaDoor

/-! The document's reader: a text, a node's name, a binary. -/
namespace Go.Proofs.YtkhjdcnlpablkaaDoor
open Go.RowKit
open Go.Lib (byteCells)

set_option maxHeartbeats 1600000 in
set_option maxRecDepth 100000 in
theorem dtext_any (B rb : Nat) (bv sv : Value) (bs : List UInt8) (s : Ds) (tag at' : Nat) (htag : tag = 118 ∨ tag = 119) (hlen : bs.length ≤ 1048576) (hpos : 1 ≤ bs.length) (w : World) (h : Dp B w rb bv sv bs s) (hs : s.why = 0) :
    Calls Tryd.prog 58 #[.pointer (some ⟨rb, 0, none⟩), .int .u8 tag, .int .i64 at'] w fun r w' => ResP (textD bs s.pos tag at')
      (fun x => r = .returned (.string x.1) ∧ Dw B w rb bv sv bs w' sv { s with pos := x.2 })
      (fun e p => (∃ str, r = .returned (.string str)) ∧ DEr B w rb bv sv bs e p w') := by
  have H := Lib.hid h
  have HS := Lib.hid hs
  obtain ⟨k, hk⟩ : ∃ k, (if tag = 118 then 2 else 1) = k := ⟨_, rfl⟩
  have hk12 : 1 ≤ k ∧ k ≤ 2 := by rw [← hk]; split <;> omega
  have HX : Hid (textD bs s.pos tag at' = (numD bs s.pos k).bind fun n => (takeD bs (s.pos + k) n).bind fun l => if rightL l then .ok (⟨l.toArray⟩, s.pos + k + n) else .bad 20 at') := Lib.hid (by unfold textD; rw [hk])
  have H1 := dnum_any B rb bv sv bs s k hlen hpos (by omega) w h hs
  clear h hs
  cases hn : numD bs s.pos k with
  | bad e p =>
    replace H1 := callsBad H1 hn
    have HF : Hid (textD bs s.pos tag at' = .bad e p) := Lib.hid (by rw [HX.out, hn]; rfl)
    have HH1 := Lib.hid H1
    clear H1 hn
    rcases htag with rfl | rfl
    all_goals
      simp at hk
      subst hk
      go_enter Tryd.func58, Tryd.ntmps58
      go_wp2_with fail
      refine (HH1.out).mono ?_
      rintro r w1 ⟨rfl, hE⟩
      have HE := Lib.hid hE
      clear hE
      go_wp2_with fail
      go_ret
      exact ResP.badI HF.out ⟨⟨_, rfl⟩, HE.out⟩
  | ok n =>
    replace H1 := callsOk H1 hn
    have HH1 := Lib.hid H1
    have hno := numD_ok hn
    have hnb := beN_lt (rest bs s.pos k)
    rw [rest_len hno.1, ← hno.2] at hnb
    have hnb2 : n < 65536 := by
      have : (256 : Nat) ^ k ≤ 256 ^ 2 := Nat.pow_le_pow_right (by omega) (by omega)
      omega
    cases hl : takeD bs (s.pos + k) n with
    | bad e p =>
      have HF : Hid (textD bs s.pos tag at' = .bad e p) := Lib.hid (by rw [HX.out, hn]; simp only [Res.bind]; rw [hl])
      have HL := Lib.hid hl
      clear H1 hn hno hnb hl
      rcases htag with rfl | rfl
      all_goals
        simp at hk
        subst hk
        go_enter Tryd.func58, Tryd.ntmps58
        go_wp2_with fail
        refine (HH1.out).mono ?_
        rintro r w1 ⟨rfl, h1⟩
        have HH2 := Lib.hid (callsBad (dtake_any B rb bv sv bs _ n hlen hpos (by omega) w1 h1.rp HS.out) HL.out)
        have HW1 := Lib.hid h1
        clear h1
        go_wp2_with fail
        refine (HH2.out).mono ?_
        rintro r w2 ⟨rfl, hE⟩
        have HE := Lib.hid (DEr.behind HW1.out hE)
        have hcv := run_str (rd_nil w2) rfl
        clear hE
        go_wp2_with fail
        go_ret
        exact ResP.badI HF.out ⟨⟨_, rfl⟩, HE.out⟩
    | ok l =>
      have hlo := takeD_ok hl
      have hll : l.length = n := by rw [hlo.2]; exact rest_len hlo.1
      have HL := Lib.hid hl
      have HLL := Lib.hid hll
      obtain ⟨str, hstr⟩ : ∃ str : ByteArray, (⟨l.toArray⟩ : ByteArray) = str := ⟨_, rfl⟩
      have hsz : str.size = n := by rw [← hstr, ba_size, hll]
      have hsl : str.data.toList = l := by rw [← hstr]
      have HSL := Lib.hid hsl
      have HSZ := Lib.hid hsz
      have HSTR := Lib.hid hstr
      obtain ⟨b, hb⟩ : ∃ b, rightL l = b := ⟨_, rfl⟩
      have HF : Hid (textD bs s.pos tag at' = if b then .ok (str, s.pos + k + n) else .bad 20 at') := Lib.hid (by rw [HX.out, hn]; simp only [Res.bind]; rw [hl]; simp only; rw [hb, hstr])
      have HB : Hid (rightN l = if b then 0 else 20) := Lib.hid (by unfold rightN; rw [hb])
      clear H1 hn hno hnb hl hlo hll hstr hsz hsl hb
      rcases htag with rfl | rfl
      all_goals
        simp at hk
        subst hk
        go_enter Tryd.func58, Tryd.ntmps58
        go_wp2_with fail
        refine (HH1.out).mono ?_
        rintro r w1 ⟨rfl, h1⟩
        have HH2 := Lib.hid (callsOk (dtake_any B rb bv sv bs _ n hlen hpos (by omega) w1 h1.rp HS.out) HL.out)
        have HW1 := Lib.hid h1
        clear h1
        go_wp2_with fail
        refine (HH2.out).mono ?_
        rintro r w2 ⟨_, ⟨g, off, cap, rfl, hrd⟩, h2⟩
        have hcv := run_str hrd.now HLL.out
        rw [HSTR.out] at hcv
        have HW2 := Lib.hid (HW1.out.trans h2)
        have H3 := rright_any str w2 (by rw [HSZ.out]; unfold maxLen; omega)
        rw [HSL.out, HB.out] at H3
        have HH3 := Lib.hid H3
        have HRD := Lib.hid hrd
        clear h2 H3 hrd
        cases b with
        | true =>
          go_wp2_with fail
          refine (HH3.out).mono ?_
          rintro r w3 ⟨rfl, hb3⟩
          have HW3 := Lib.hid (HW2.out.below hb3)
          have hcv2 := run_str (HRD.out.now.below (Nat.le_refl _) hb3) HLL.out
          rw [HSTR.out] at hcv2
          clear hb3 hcv
          go_wp2_with fail
          go_ret
          exact ResP.okI HF.out ⟨rfl, HW3.out⟩
        | false =>
          go_wp2_with fail
          refine (HH3.out).mono ?_
          rintro r w3 ⟨rfl, hb3⟩
          have HW3 := Lib.hid (HW2.out.below hb3)
          have H4 := Lib.hid (dfail_any B rb bv sv bs _ 20 at' w3 HW3.out.rp)
          have HRD3 := Lib.hid (HRD.out.step (hb3.mono (by have h1 := H.out.Ble; have h2 := HW2.out.fr.size; omega)))
          clear hb3 hcv
          go_wp2_with fail
          refine (H4.out).mono ?_
          rintro r w4 ⟨rfl, h4⟩
          have hcv2 := run_str (HRD3.out.step (h4.bel HW3.out.rp)).now HLL.out
          rw [HSTR.out] at hcv2
          have HW4 := Lib.hid h4
          clear h4
          go_wp2_with fail
          go_ret
          exact ResP.badI HF.out ⟨⟨_, rfl⟩, .fail (HW3.out.trans HW4.out) HS.out (by omega)⟩

set_option maxHeartbeats 1600000 in
set_option maxRecDepth 100000 in
theorem dnamed_any (B rb : Nat) (bv sv : Value) (bs : List UInt8) (s : Ds) (hlen : bs.length ≤ 1048576) (hpos : 1 ≤ bs.length) (w : World) (h : Dp B w rb bv sv bs s) (hs : s.why = 0) :
    Calls Tryd.prog 80 #[.pointer (some ⟨rb, 0, none⟩)] w fun r w' => r = .returned (.tuple #[]) ∧ ResP (hostD bs s.pos)
      (fun p => Dw B w rb bv sv bs w' sv { s with pos := p })
      (fun e p => DEr B w rb bv sv bs e p w') := by
  obtain ⟨c0, c1, c2, c3, c4, c5⟩ := Ds.cell h.blk
  have H := Lib.hid h
  have HS := Lib.hid hs
  have H1 := dtake_any B rb bv sv bs s 1 hlen hpos (by omega) w h hs
  clear h hs c0 c2 c3 c4 c5
  have hX : hostD bs s.pos = (numD bs s.pos 1).bind fun tag => if tag ≠ 119 ∧ tag ≠ 118 then .bad 61 s.pos else (textD bs (s.pos + 1) tag s.pos).bind fun p => .ok p.2 := rfl
  by_cases hn : s.pos + 1 ≤ bs.length
  · have hnum : numD bs s.pos 1 = .ok (beN (rest bs s.pos 1)) := by unfold numD; rw [if_neg (by omega)]
    have htk : takeD bs s.pos 1 = .ok (rest bs s.pos 1) := by unfold takeD; rw [if_neg (by omega)]
    rw [hnum] at hX
    replace H1 := callsOk H1 htk
    obtain ⟨c, hc⟩ : ∃ c, rest bs s.pos 1 = [c] := by
      have := rest_len hn
      match rest bs s.pos 1, this with
      | [c], _ => exact ⟨c, rfl⟩
    rw [hc] at hX H1
    have hbe : beN [c] = c.toNat := by simp [beN]
    rw [hbe] at hX
    simp only [Res.bind] at hX
    obtain ⟨y, hy⟩ : ∃ y, c.toNat = y := ⟨_, rfl⟩
    rw [hy] at hX
    have hyb := UInt8.toNat_lt c
    rw [hy] at hyb
    have HH1 := Lib.hid H1
    have HY := Lib.hid hy
    have HX := Lib.hid hX
    obtain ⟨p0, hp0⟩ : ∃ p0, s.pos = p0 := ⟨_, rfl⟩
    rw [hp0] at c1
    have HP0 := Lib.hid hp0
    have hcc : (byteCells [c])[0]? = some (.int .u8 y) := by unfold byteCells; simp [hy]
    clear H1 hn hnum htk hX hc hbe hy hp0
    by_cases hbad : y ≠ 119 ∧ y ≠ 118
    · have HF : Hid (hostD bs s.pos = .bad 61 s.pos) := Lib.hid (by rw [HX.out, if_pos hbad])
      have q1 : ((y : Int) != 118) = true := by simp; omega
      have q2 : ((y : Int) != 119) = true := by simp; omega
      have q1' : ((y : Int) == 118) = false := by simp; omega
      have q2' : ((y : Int) == 119) = false := by simp; omega
      clear hbad
      go_enter Tryd.func80, Tryd.ntmps80
      go_wp2_with fail
      refine (HH1.out).mono ?_
      rintro r w1 ⟨_, ⟨g, off, cap, rfl, hrd⟩, h1⟩
      obtain ⟨g', off', cap', hv, hr1, hr2, hr3⟩ := hrd.now.at (by omega)
      simp at hv
      obtain ⟨⟨rfl, rfl⟩, rfl⟩ := hv
      have d0 := hr3 0 (by omega)
      rw [hcc, Nat.add_zero] at d0
      have HW1 := Lib.hid h1
      have H4 := Lib.hid (dfail_any B rb bv sv bs _ 61 p0 w1 h1.rp)
      clear hr1 hr2 hr3 h1 hrd hcc
      go_wp2_with fail
      refine (H4.out).mono ?_
      rintro r w4 ⟨rfl, h4⟩
      have HW4 := Lib.hid h4
      clear h4
      go_wp2_with fail
      refine bodyPost_ret (results_none rfl _ _ _) rfl ⟨rfl, ?_⟩
      exact ResP.badI HF.out (DEr.fail (s := { s with pos := s.pos + 1 }) (by have := HW1.out.trans HW4.out; rw [← HP0.out] at this; exact this) HS.out (by omega))
    · have hy2 : y = 118 ∨ y = 119 := by omega
      have HF : Hid (hostD bs s.pos = (textD bs (s.pos + 1) y s.pos).bind fun p => .ok p.2) := Lib.hid (by rw [HX.out, if_neg hbad]; cases textD bs (s.pos + 1) y s.pos <;> rfl)
      clear hbad
      have HY2 := Lib.hid hy2
      have HTX : Hid (∀ W, Dw B w rb bv sv bs W sv { s with pos := s.pos + 1 } → Calls Tryd.prog 58 #[.pointer (some ⟨rb, 0, none⟩), .int .u8 y, .int .i64 p0] W fun r w' => ResP (textD bs (s.pos + 1) y s.pos)
        (fun x => r = .returned (.string x.1) ∧ Dw B W rb bv sv bs w' sv { s with pos := x.2 })
        (fun e p => (∃ str, r = .returned (.string str)) ∧ DEr B W rb bv sv bs e p w')) := Lib.hid (fun W hW => by
          have := dtext_any B rb bv sv bs _ y p0 hy2 hlen hpos W hW.rp HS.out
          rw [HP0.out]
          rw [HP0.out] at this
          exact this)
      rcases hy2 with rfl | rfl
      all_goals
        go_enter Tryd.func80, Tryd.ntmps80
        go_wp2_with fail
        refine (HH1.out).mono ?_
        rintro r w1 ⟨_, ⟨g, off, cap, rfl, hrd⟩, h1⟩
        obtain ⟨g', off', cap', hv, hr1, hr2, hr3⟩ := hrd.now.at (by omega)
        simp at hv
        obtain ⟨⟨rfl, rfl⟩, rfl⟩ := hv
        have d0 := hr3 0 (by omega)
        rw [hcc, Nat.add_zero] at d0
        have HW1 := Lib.hid h1
        have H4 := Lib.hid (HTX.out w1 h1)
        clear hr1 hr2 hr3 h1 hrd hcc HTX
        go_wp2_with fail
        refine (H4.out).mono ?_
        rintro r w4 h4
        have HW4 := Lib.hid h4
        clear h4
        cases hT : textD bs (s.pos + 1) _ s.pos with
        | ok x =>
          obtain ⟨rfl, h5⟩ := HW4.out.okE hT
          have HF2 : Hid (hostD bs s.pos = .ok x.2) := Lib.hid (by rw [HF.out, hT]; rfl)
          have HW5 := Lib.hid (HW1.out.trans h5)
          clear hT h5 HW4
          go_wp2_with fail
          go_end0
          exact ⟨rfl, ResP.okI HF2.out HW5.out⟩
        | bad e p =>
          obtain ⟨⟨str, rfl⟩, h5⟩ := HW4.out.badE hT
          have HF2 : Hid (hostD bs s.pos = .bad e p) := Lib.hid (by rw [HF.out, hT]; rfl)
          have HW5 := Lib.hid (DEr.behind HW1.out h5)
          clear hT h5 HW4
          go_wp2_with fail
          go_end0
          exact ⟨rfl, ResP.badI HF2.out HW5.out⟩
  · have hnum : numD bs s.pos 1 = .bad 62 bs.length := by unfold numD; rw [if_pos (by omega)]
    have htk : takeD bs s.pos 1 = .bad 62 bs.length := by unfold takeD; rw [if_pos (by omega)]
    rw [hnum] at hX
    have HF : Hid (hostD bs s.pos = .bad 62 bs.length) := Lib.hid hX
    have HH1 := Lib.hid (callsBad H1 htk)
    obtain ⟨p0, hp0⟩ : ∃ p0, s.pos = p0 := ⟨_, rfl⟩
    rw [hp0] at c1
    clear H1 hn hnum htk hX hp0
    go_enter Tryd.func80, Tryd.ntmps80
    go_wp2_with fail
    refine (HH1.out).mono ?_
    rintro r w1 ⟨rfl, hE⟩
    have HE := Lib.hid hE
    clear hE
    go_wp2_with fail
    refine bodyPost_ret (results_none rfl _ _ _) rfl ⟨rfl, ResP.badI HF.out HE.out⟩
end Go.Proofs.YtkhjdcnlpablkaaDoor

/-! The document's reader: a number of any size. -/
namespace Go.Proofs.YtkhjdcnlpablkaaDoor
open Go.RowKit
open Go.Lib (byteCells)

/-- What a method leaves that reads a term's rest. -/
def DPost (B : Nat) (w : World) (rb : Nat) (bv sv : Value) (bs : List UInt8) (X : Res (Rs × Nat × Bool)) (r : Ending) (w' : World) : Prop :=
  r = .returned (.tuple #[]) ∧ ResP X (fun x => DOk B w rb bv sv bs w' x.1) (fun e p => DEr B w rb bv sv bs e p w')
theorem DOk.behind {B rb : Nat} {w w1 w2 : World} {bv sv sv1 : Value} {bs : List UInt8} {s1 : Ds} {x : Rs} (h : Dw B w rb bv sv bs w1 sv1 s1) (k : DOk B w1 rb bv sv1 bs w2 x) : DOk B w rb bv sv bs w2 x := by
  obtain ⟨sv2, s2, h1, h2⟩ := k
  exact ⟨sv2, s2, h.trans h1, h2⟩
theorem DPost.behind {B rb : Nat} {w w1 w2 : World} {bv sv sv1 : Value} {bs : List UInt8} {s1 : Ds} {X : Res (Rs × Nat × Bool)} {r : Ending} (h : Dw B w rb bv sv bs w1 sv1 s1) (k : DPost B w1 rb bv sv1 bs X r w2) : DPost B w rb bv sv bs X r w2 := by
  refine ⟨k.1, ?_⟩
  cases X with
  | ok x => exact DOk.behind h k.2
  | bad e p => exact DEr.behind h k.2

theorem bigD_two {bs : List UInt8} {p tg : Nat} {a b : UInt8} (h : takeD bs p 2 = .ok [a, b]) : bigD bs p tg = (takeD bs (p + 2) a.toNat).bind fun d =>
    if 1 < b.toNat then .bad 1 tg
    else if 9223372036854775808 < leV d ∨ (leV d = 9223372036854775808 ∧ b.toNat = 0) then .bad 7 tg
    else .ok (if b.toNat = 1 then -(leV d : Int) else (leV d : Int), p + 2 + a.toNat) := by
  obtain ⟨h1, h2⟩ := takeD_ok h
  have h3 : bs.drop p = [a, b] ++ bs.drop (p + 2) := by
    have e : bs.drop p = (bs.drop p).take 2 ++ (bs.drop p).drop 2 := (List.take_append_drop 2 _).symm
    rw [e, List.drop_drop, show (bs.drop p).take 2 = [a, b] from h2.symm]
  have n1 : numD bs p 1 = .ok a.toNat := by
    unfold numD rest
    rw [if_neg (by omega), h3]
    simp [beN]
  have n2 : numD bs (p + 1) 1 = .ok b.toNat := by
    unfold numD rest
    rw [if_neg (by omega), ← List.drop_drop, h3]
    simp [beN]
  unfold bigD
  rw [n1]
  simp only [Res.bind]
  rw [n2]
theorem bigD_short {bs : List UInt8} {p tg : Nat} (h : bs.length < p + 2) : bigD bs p tg = .bad 62 bs.length := by
  unfold bigD
  by_cases h1 : bs.length < p + 1
  · have : numD bs p 1 = .bad 62 bs.length := by unfold numD; rw [if_pos h1]
    rw [this]; rfl
  · have : numD bs p 1 = .ok (beN (rest bs p 1)) := by unfold numD; rw [if_neg h1]
    rw [this]
    have h2 : numD bs (p + 1) 1 = .bad 62 bs.length := by unfold numD; rw [if_pos (by omega)]
    simp only [Res.bind]
    rw [h2]

set_option maxHeartbeats 3200000 in
set_option maxRecDepth 100000 in
theorem dbig_any (B rb : Nat) (bv sv : Value) (bs : List UInt8) (s : Ds) (at' : Nat) (hlen : bs.length ≤ 1048576) (hpos : 1 ≤ bs.length) (w : World) (h : Dp B w rb bv sv bs s) (hs : s.why = 0) (hcl : s.cells ≤ 1024) (hol : s.out.length ≤ 10000000) :
    Calls Tryd.prog 57 #[.pointer (some ⟨rb, 0, none⟩), .int .i64 at'] w (DPost B w rb bv sv bs ((bigD bs s.pos at').bind fun x => madeD s.rs x.2 at' (intC x.1))) := by
  have H := Lib.hid h
  have HS := Lib.hid hs
  have HO := Lib.hid (⟨hcl, hol⟩ : s.cells ≤ 1024 ∧ s.out.length ≤ 10000000)
  have H1 := dtake_any B rb bv sv bs s 2 hlen hpos (by omega) w h hs
  clear h hs
  by_cases h2 : bs.length < s.pos + 2
  · have htk : takeD bs s.pos 2 = .bad 62 bs.length := by unfold takeD; rw [if_pos h2]
    have HF : Hid ((bigD bs s.pos at').bind (fun x => madeD s.rs x.2 at' (intC x.1)) = .bad 62 bs.length) := Lib.hid (by rw [bigD_short h2]; rfl)
    have HH1 := Lib.hid (callsBad H1 htk)
    clear H1 htk h2
    go_enter Tryd.func57, Tryd.ntmps57
    go_wp2_with fail
    refine (HH1.out).mono ?_
    rintro r w1 ⟨rfl, hE⟩
    have HE := Lib.hid hE
    clear hE
    go_wp2_with fail
    refine bodyPost_ret (results_none rfl _ _ _) rfl ⟨rfl, ResP.badI HF.out HE.out⟩
  · have htk : takeD bs s.pos 2 = .ok (rest bs s.pos 2) := by unfold takeD; rw [if_neg h2]
    obtain ⟨a, b, hab⟩ : ∃ a b, rest bs s.pos 2 = [a, b] := by
      have := rest_len (bs := bs) (p := s.pos) (n := 2) (by omega)
      match rest bs s.pos 2, this with
      | [a, b], _ => exact ⟨a, b, rfl⟩
    rw [hab] at htk
    have HH1 := Lib.hid (callsOk H1 htk)
    have hbig := bigD_two (tg := at') htk
    obtain ⟨n, hn⟩ : ∃ n, a.toNat = n := ⟨_, rfl⟩
    obtain ⟨sign, hsn⟩ : ∃ sign, b.toNat = sign := ⟨_, rfl⟩
    have hnb := UInt8.toNat_lt a
    have hsb := UInt8.toNat_lt b
    rw [hn] at hnb
    rw [hsn] at hsb
    rw [hn, hsn] at hbig
    have hc0 : (byteCells [a, b])[0]? = some (.int .u8 n) := by unfold byteCells; simp [hn]
    have hc1 : (byteCells [a, b])[1]? = some (.int .u8 sign) := by unfold byteCells; simp [hsn]
    have HBG := Lib.hid hbig
    clear H1 htk hab hbig hn hsn h2
    cases hl : takeD bs (s.pos + 2) n with
    | bad e p =>
      have HF : Hid ((bigD bs s.pos at').bind (fun x => madeD s.rs x.2 at' (intC x.1)) = .bad e p) := Lib.hid (by rw [HBG.out, hl]; rfl)
      have HL := Lib.hid hl
      clear hl
      go_enter Tryd.func57, Tryd.ntmps57
      go_wp2_with fail
      refine (HH1.out).mono ?_
      rintro r w1 ⟨_, ⟨g0, off0, cap0, rfl, hrd⟩, h1⟩
      obtain ⟨g', off', cap', hv, _, _, hr3⟩ := hrd.now.at (by omega)
      simp at hv
      obtain ⟨⟨rfl, rfl⟩, rfl⟩ := hv
      have d0 := hr3 0 (by omega)
      rw [hc0, Nat.add_zero] at d0
      have HW1 := Lib.hid h1
      have H2 := Lib.hid (callsBad (dtake_any B rb bv sv bs _ n hlen hpos (by omega) w1 h1.rp HS.out) HL.out)
      clear hr3 hrd h1
      go_wp2_with fail
      refine (H2.out).mono ?_
      rintro r w2 ⟨rfl, hE⟩
      have HE := Lib.hid (DEr.behind HW1.out hE)
      clear hE
      go_wp2_with fail
      refine bodyPost_ret (results_none rfl _ _ _) rfl ⟨rfl, ResP.badI HF.out HE.out⟩
    | ok l =>
      have HL := Lib.hid hl
      have hll : l.length = n := by
        have h1 := takeD_ok hl
        rw [h1.2]; exact rest_len h1.1
      have HLL := Lib.hid hll
      have HF : Hid (bigD bs s.pos at' = if 1 < sign then .bad 1 at' else if 9223372036854775808 < leV l ∨ (leV l = 9223372036854775808 ∧ sign = 0) then .bad 7 at' else .ok (if sign = 1 then -(leV l : Int) else (leV l : Int), s.pos + 2 + n)) := Lib.hid (by rw [HBG.out, hl]; rfl)
      clear hl hll
      go_enter Tryd.func57, Tryd.ntmps57
      go_wp2_with fail
      refine (HH1.out).mono ?_
      rintro r w1 ⟨_, ⟨g0, off0, cap0, rfl, hrd⟩, h1⟩
      obtain ⟨g', off', cap', hv, _, _, hr3⟩ := hrd.now.at (by omega)
      simp at hv
      obtain ⟨⟨rfl, rfl⟩, rfl⟩ := hv
      have d0 := hr3 0 (by omega)
      rw [hc0, Nat.add_zero] at d0
      have HW1 := Lib.hid h1
      have H2 := Lib.hid (callsOk (dtake_any B rb bv sv bs _ n hlen hpos (by omega) w1 h1.rp HS.out) HL.out)
      have HRD0 := Lib.hid hrd
      clear hr3 hrd h1
      go_wp2_with fail
      refine (H2.out).mono ?_
      rintro r w3 ⟨_, ⟨g, off, cap, rfl, hrd⟩, h3⟩
      have hr0 := (HRD0.out.step (h3.bel HW1.out.rp)).now
      obtain ⟨g', off', cap', hv, _, _, hr3⟩ := hr0.at (by omega)
      simp at hv
      obtain ⟨⟨rfl, rfl⟩, rfl⟩ := hv
      have d1 := hr3 1 (by omega)
      rw [hc1] at d1
      have HRD := Lib.hid hrd.now
      have HW3 := Lib.hid (HW1.out.trans h3)
      have H4 := fun e => dfail_any B rb bv sv bs _ e at' w3 h3.rp
      have HH4 := Lib.hid H4
      have HLF : Hid (∀ (k : Int), Calls Tryd.prog 56 #[.pointer (some ⟨rb, 0, none⟩), .agg #[.int .i64 1, .int .i64 k, .string ⟨#[]⟩], .int .i64 at'] w3 (DPost B w3 rb bv sv bs (madeD s.rs (s.pos + 2 + n) at' (intC k)))) := Lib.hid (fun k =>
        dleaf_made B rb bv sv bs _ 1 k ⟨#[]⟩ at' w3 h3.rp HS.out HO.out.1 HO.out.2)
      clear hr3 hr0 h3 hrd H4 HRD0 d0
      by_cases hsg : 1 < sign
      · have q1 : decide (1 < (sign : Int)) = true := by simp; omega
        have q2 : decide (1 < sign) = true := by simp; omega
        have HFB : Hid ((bigD bs s.pos at').bind (fun x => madeD s.rs x.2 at' (intC x.1)) = .bad 1 at') := Lib.hid (by rw [HF.out, if_pos hsg]; rfl)
        have H5 := Lib.hid (HH4.out 1)
        clear hsg
        go_wp2_with fail
        refine (H5.out).mono ?_
        rintro r w4 ⟨rfl, h4⟩
        have HW4 := Lib.hid h4
        clear h4
        go_wp2_with fail
        refine bodyPost_ret (results_none rfl _ _ _) rfl ⟨rfl, ResP.badI HFB.out (DEr.behind HW3.out (.fail HW4.out HS.out (by omega)))⟩
      · have q1 : decide (1 < (sign : Int)) = false := by simp; omega
        have q2 : decide (1 < sign) = false := by simp; omega
        have H5 := Lib.hid (HH4.out 7)
        have n1 : IntKind.i64.wrap ((n : Int) - 1) = (n : Int) - 1 := by rw [IntKind.wrap_i64]; omega
        go_wp2_with fail
        go_loopg [7, 8, 9] n (fun g s7 s8 s9 wr => ∃ (i : Int) (u V : Nat) (bb : Bool), s7 = .int .u64 u ∧ s8 = .bool bb ∧ s9 = .int .i64 i ∧ i + 1 = g ∧ g ≤ n ∧ V = leV (l.drop g) ∧ u = V % 18446744073709551616 ∧ bb = decide (18446744073709551616 ≤ V) ∧ wr = w3)
        case atStart => exact ⟨_, 0, 0, false, rfl, rfl, rfl, by omega, by omega, by rw [List.drop_of_length_le (by rw [HLL.out]; omega)]; rfl, by omega, by simp, rfl⟩
        case round =>
          obtain ⟨i, u, V, bb, rfl, rfl, rfl, hi, hgn, hV, hu, hbb, rfl⟩ := hrel
          cases gk with
          | zero =>
            obtain rfl : i = -1 := by omega
            have hu0 : leV l = V := hV.symm
            rw [hu0] at HF
            clear hV hu0 hgn hi
            by_cases hbad : 9223372036854775808 < V ∨ (V = 9223372036854775808 ∧ sign = 0)
            · have HFB : Hid ((bigD bs s.pos at').bind (fun x => madeD s.rs x.2 at' (intC x.1)) = .bad 7 at') := Lib.hid (by rw [HF.out, if_neg hsg, if_pos hbad]; rfl)
              by_cases hb64 : 18446744073709551616 ≤ V
              · obtain rfl : bb = true := by rw [hbb]; simp; omega
                clear hbb hbad
                go_wp2_with fail
                refine (H5.out).mono ?_
                rintro r w4 ⟨rfl, h4⟩
                have HW4 := Lib.hid h4
                clear h4
                go_wp2_with fail
                refine bodyPost_ret (results_none rfl _ _ _) rfl ⟨rfl, ResP.badI HFB.out (DEr.behind HW3.out (.fail HW4.out HS.out (by omega)))⟩
              · obtain rfl : bb = false := by rw [hbb]; simp; omega
                obtain rfl : u = V := by omega
                clear hbb hu
                rcases hbad with hb | ⟨rfl, rfl⟩
                · have t1 : decide ((9223372036854775808 : Int) < (u : Int)) = true := by simp; omega
                  have t2 : decide (9223372036854775808 < u) = true := by simp; omega
                  have t3 : ((u : Int) == 9223372036854775808) = false := by simp; omega
                  go_wp2_with fail
                  refine (H5.out).mono ?_
                  rintro r w4 ⟨rfl, h4⟩
                  have HW4 := Lib.hid h4
                  clear h4
                  go_wp2_with fail
                  refine bodyPost_ret (results_none rfl _ _ _) rfl ⟨rfl, ResP.badI HFB.out (DEr.behind HW3.out (.fail HW4.out HS.out (by omega)))⟩
                · go_wp2_with fail
                  refine (H5.out).mono ?_
                  rintro r w4 ⟨rfl, h4⟩
                  have HW4 := Lib.hid h4
                  clear h4
                  go_wp2_with fail
                  refine bodyPost_ret (results_none rfl _ _ _) rfl ⟨rfl, ResP.badI HFB.out (DEr.behind HW3.out (.fail HW4.out HS.out (by omega)))⟩
            · obtain rfl : bb = false := by rw [hbb]; simp; omega
              obtain rfl : u = V := by omega
              have HFB : Hid ((bigD bs s.pos at').bind (fun x => madeD s.rs x.2 at' (intC x.1)) = madeD s.rs (s.pos + 2 + n) at' (intC (if sign = 1 then -(u : Int) else (u : Int)))) := Lib.hid (by rw [HF.out, if_neg hsg, if_neg hbad]; rfl)
              have t1 : decide ((9223372036854775808 : Int) < (u : Int)) = false := by simp; omega
              have t2 : decide (9223372036854775808 < u) = false := by simp; omega
              clear hbb hu
              obtain rfl | rfl : sign = 0 ∨ sign = 1 := by omega
              · have t3 : ((u : Int) == 9223372036854775808) = false := by simp; omega
                have t4 : IntKind.i64.wrap (u : Int) = u := by rw [IntKind.wrap_i64]; omega
                have H6 := Lib.hid (HLF.out (u : Int))
                clear hbad
                go_wp2_with fail
                refine (H6.out).mono ?_
                rintro r w4 h4
                obtain rfl := h4.1
                have HW4 := Lib.hid h4
                clear h4
                go_wp2_with fail
                go_end0
                rw [HFB.out]
                exact DPost.behind HW3.out HW4.out
              · have H6 := Lib.hid (HLF.out (-(u : Int)))
                by_cases he : u = 9223372036854775808
                · subst he
                  have t4 : IntKind.i64.wrap (9223372036854775808 : Int) = -9223372036854775808 := by rw [IntKind.wrap_i64]; omega
                  have t5 : IntKind.i64.wrap (9223372036854775808 : Int) = -9223372036854775808 := t4
                  clear hbad
                  go_wp2_with fail
                  refine (H6.out).mono ?_
                  rintro r w4 h4
                  obtain rfl := h4.1
                  have HW4 := Lib.hid h4
                  clear h4
                  go_wp2_with fail
                  go_end0
                  rw [HFB.out]
                  exact DPost.behind HW3.out HW4.out
                · have t3 : ((u : Int) == 9223372036854775808) = false := by simp; omega
                  have t4 : IntKind.i64.wrap (u : Int) = u := by rw [IntKind.wrap_i64]; omega
                  have t5 : IntKind.i64.wrap (-(u : Int)) = -(u : Int) := by rw [IntKind.wrap_i64]; omega
                  clear he hbad
                  go_wp2_with fail
                  refine (H6.out).mono ?_
                  rintro r w4 h4
                  obtain rfl := h4.1
                  have HW4 := Lib.hid h4
                  clear h4
                  go_wp2_with fail
                  go_end0
                  rw [HFB.out]
                  exact DPost.behind HW3.out HW4.out
          | succ g' =>
            obtain rfl : i = (g' : Int) := by omega
            have hkl : g' < l.length := by have := HLL.out; omega
            obtain ⟨c, hc⟩ : ∃ c, l[g']? = some c := ⟨l[g'], List.getElem?_eq_getElem _⟩
            have t3 : decide (0 ≤ (g' : Int)) = true := by simp
            have hck := cells_byte HRD.out hc HLL.out
            have hcb := UInt8.toNat_lt c
            have hnx := leV_drop l g' c hc
            rw [← hV] at hnx
            obtain ⟨y, hy⟩ : ∃ y, c.toNat = y := ⟨_, rfl⟩
            rw [hy] at hck hcb hnx
            obtain ⟨x, hx⟩ : ∃ x, u % 72057594037927936 = x := ⟨_, rfl⟩
            have hor := u64_or8 x y (by omega) hcb
            have h256 : IntKind.u64.wrap ((u : Int) * 256) = (x : Int) * 256 := by rw [IntKind.wrap_u64]; omega
            have hg1 : IntKind.i64.wrap ((g' : Int) - 1) = (g' : Int) - 1 := by rw [IntKind.wrap_i64]; omega
            have hkz : (g' : Int) < (n : Int) := by have := HLL.out; omega
            have hkz' : g' < n := by have := HLL.out; omega
            have HN := Lib.hid hnx
            have HU : Hid (x * 256 + y = (y + 256 * V) % 18446744073709551616) := Lib.hid (by omega)
            have hub : u < 18446744073709551616 := by omega
            cases bb with
            | true =>
              have HB : Hid (true = decide (18446744073709551616 ≤ y + 256 * V)) := Lib.hid (by
                have := of_decide_eq_true hbb.symm
                simp; omega)
              clear hbb hu hV hc hnx hy hx
              go_wp2_with fail
              go_roundg g'
              case measure => omega
              case rel => exact ⟨(g' : Int) - 1, x * 256 + y, y + 256 * V, true, by first | rfl | (congr 1; omega), rfl, rfl, by omega, by omega, HN.out.symm, HU.out, HB.out, rfl⟩
            | false =>
              have hV64 : V < 18446744073709551616 := by have := of_decide_eq_false hbb.symm; omega
              obtain rfl : u = V := by omega
              by_cases hbig : 72057594037927936 ≤ u
              · have HB : Hid (true = decide (18446744073709551616 ≤ y + 256 * u)) := Lib.hid (by simp; omega)
                obtain ⟨z, hz⟩ : ∃ z, u / 72057594037927936 = z := ⟨_, rfl⟩
                have t1 : (u : Int) / 72057594037927936 = (z : Int) := by omega
                have t4 : ((z : Int) == 0) = false := by simp; omega
                have t5 : ((z : Int) != 0) = true := by simp; omega
                clear hbb hu hV hc hnx hy hx hbig hz
                go_wp2_with fail
                go_roundg g'
                case measure => omega
                case rel => exact ⟨(g' : Int) - 1, x * 256 + y, y + 256 * u, true, by first | rfl | (congr 1; omega), rfl, rfl, by omega, by omega, HN.out.symm, HU.out, HB.out, rfl⟩
              · have HB : Hid (false = decide (18446744073709551616 ≤ y + 256 * u)) := Lib.hid (by simp; omega)
                have t1 : (u : Int) / 72057594037927936 = 0 := by omega
                clear hbb hu hV hc hnx hy hx hbig
                go_wp2_with fail
                go_roundg g'
                case measure => omega
                case rel => exact ⟨(g' : Int) - 1, x * 256 + y, y + 256 * u, false, by first | rfl | (congr 1; omega), rfl, rfl, by omega, by omega, HN.out.symm, HU.out, HB.out, rfl⟩
end Go.Proofs.YtkhjdcnlpablkaaDoor

/-! The document's reader: a process, a binary, a list of bytes. -/
namespace Go.Proofs.YtkhjdcnlpablkaaDoor
open Go.RowKit
open Go.Lib (byteCells)

theorem num_lt' {bs : List UInt8} {p n v : Nat} (h : numD bs p n = .ok v) : v < 256 ^ n := by
  have h2 := numD_ok h
  have := beN_lt (rest bs p n)
  rw [rest_len h2.1] at this
  rw [h2.2]
  exact this
theorem pidD_short {bs : List UInt8} {pos p tg : Nat} (hh : hostD bs pos = .ok p) (h : bs.length < p + 12) : pidD bs pos tg = .bad 62 bs.length := by
  have bad : ∀ q n, bs.length < q + n → numD bs q n = .bad 62 bs.length := fun q n h => by unfold numD; rw [if_pos h]
  have ok : ∀ q n, ¬ bs.length < q + n → numD bs q n = .ok (beN (rest bs q n)) := fun q n h => by unfold numD; rw [if_neg h]
  unfold pidD
  rw [hh]
  simp only [Res.bind]
  by_cases h1 : bs.length < p + 4
  · rw [bad _ _ h1]
  · rw [ok _ _ h1]
    simp only
    by_cases h2 : bs.length < p + 4 + 4
    · rw [bad _ _ h2]
    · rw [ok _ _ h2]
      simp only
      rw [bad _ _ (show bs.length < p + 8 + 4 by omega)]
theorem pidD_long {bs : List UInt8} {pos p tg : Nat} (hh : hostD bs pos = .ok p) (h : ¬ bs.length < p + 12) : pidD bs pos tg =
    if 256 < beN (rest bs (p + 4) 4) ∨ beN (rest bs p 4) + beN (rest bs (p + 4) 4) * 4294967296 < 1 ∨ 1099511627776 < beN (rest bs p 4) + beN (rest bs (p + 4) 4) * 4294967296 then .bad 1 tg
    else .ok (((beN (rest bs p 4) + beN (rest bs (p + 4) 4) * 4294967296 : Nat) : Int), p + 12) := by
  have ok : ∀ q n, ¬ bs.length < q + n → numD bs q n = .ok (beN (rest bs q n)) := fun q n h => by unfold numD; rw [if_neg h]
  unfold pidD
  rw [hh]
  simp only [Res.bind]
  rw [ok _ _ (by omega)]
  simp only
  rw [ok _ _ (by omega)]
  simp only
  rw [ok (p + 8) 4 (by omega)]

set_option maxHeartbeats 3200000 in
set_option maxRecDepth 100000 in
theorem dpid_any (B rb : Nat) (bv sv : Value) (bs : List UInt8) (s : Ds) (at' : Nat) (hlen : bs.length ≤ 1048576) (hpos : 1 ≤ bs.length) (w : World) (h : Dp B w rb bv sv bs s) (hs : s.why = 0) (hcl : s.cells ≤ 1024) (hol : s.out.length ≤ 10000000) :
    Calls Tryd.prog 63 #[.pointer (some ⟨rb, 0, none⟩), .int .i64 at'] w (DPost B w rb bv sv bs ((pidD bs s.pos at').bind fun x => madeD s.rs x.2 at' ⟨4, x.1, ⟨#[]⟩⟩)) := by
  have HS := Lib.hid hs
  have H := Lib.hid h
  have HO := Lib.hid (⟨hcl, hol⟩ : s.cells ≤ 1024 ∧ s.out.length ≤ 10000000)
  have H1 := dnamed_any B rb bv sv bs s hlen hpos w h hs
  obtain ⟨ao, cap, rfl, hbc, hbm⟩ := h.inp.now.shape
  clear h hs
  cases hh : hostD bs s.pos with
  | bad e p =>
    have HF : Hid ((pidD bs s.pos at').bind (fun x => madeD s.rs x.2 at' ⟨4, x.1, ⟨#[]⟩⟩) = .bad e p) := Lib.hid (by unfold pidD; rw [hh]; rfl)
    have HH := Lib.hid hh
    have HH1 := Lib.hid H1
    clear H1 hh
    go_enter Tryd.func63, Tryd.ntmps63
    go_wp2_with fail
    refine (HH1.out).mono ?_
    rintro r w1 ⟨rfl, h1⟩
    have hE := h1.badE HH.out
    have HE := Lib.hid hE
    obtain ⟨sv1, s1, k1, k2, _, k4⟩ := hE
    have c4 := (Ds.cell k1.rp.blk).2.2.2.2.1
    rw [k2] at c4
    have q1 : ((e : Int) == 0) = false := by simp; omega
    have q2 : ((e : Int) != 0) = true := by simp; omega
    clear h1 k1 k2 k4
    go_wp2_with fail
    refine bodyPost_ret (results_none rfl _ _ _) rfl ⟨rfl, ResP.badI HF.out HE.out⟩
  | ok p =>
    have HH := Lib.hid hh
    have HH1 := Lib.hid H1
    clear H1
    by_cases hsh : bs.length < p + 12
    · have HF : Hid ((pidD bs s.pos at').bind (fun x => madeD s.rs x.2 at' ⟨4, x.1, ⟨#[]⟩⟩) = .bad 62 bs.length) := Lib.hid (by rw [pidD_short hh hsh]; rfl)
      have hple := (hostD_ok hh).2
      clear hh
      go_enter Tryd.func63, Tryd.ntmps63
      go_wp2_with fail
      refine (HH1.out).mono ?_
      rintro r w1 ⟨rfl, h1⟩
      have h2 := h1.okE HH.out
      obtain ⟨c0, c1, _, _, c4, _⟩ := Ds.cell h2.rp.blk
      simp only at c1 c4
      rw [HS.out] at c4
      have HFA : Hid (∀ q, Calls Tryd.prog 33 #[.pointer (some ⟨rb, 0, none⟩), .int .i64 62, .int .i64 bs.length] (w1.drewN q) fun r w' => r = .returned (.tuple #[]) ∧ Dw B w1 rb (.slice ao bs.length cap) sv bs w' sv (Ds.fail { s with pos := p } 62 bs.length)) := Lib.hid (fun q =>
        (dfail_any B rb _ sv bs _ 62 bs.length (w1.drewN q) (h2.rp.below (bel_drewN (Below.refl _ _) q))).mono fun r w' hr => ⟨hr.1, Dw.behind (bel_drewN (Below.refl _ _) q) hr.2⟩)
      have HW2 := Lib.hid h2
      obtain ⟨d, hd⟩ : ∃ d, bs.length - p = d := ⟨_, rfl⟩
      have e2 : IntKind.i64.wrap ((bs.length : Int) - (p : Int)) = (d : Int) := by rw [IntKind.wrap_i64]; omega
      have e3 : (bs.length : Int) - (p : Int) = (d : Int) := by omega
      have q1 : decide ((d : Int) < 12) = true := decide_eq_true (by omega)
      have q2 : decide (d < 12) = true := decide_eq_true (by omega)
      clear h1 h2 hsh hd hple hbc hbm
      go_wp2_with fail
      go_quiet (fail)
      go_wp2_with fail
      refine (HFA.out _).mono ?_
      rintro r w3 ⟨rfl, h3⟩
      have HW3 := Lib.hid h3
      clear h3
      go_wp2_with fail
      refine bodyPost_ret (results_none rfl _ _ _) rfl ⟨rfl, ResP.badI HF.out (DEr.behind HW2.out (.fail HW3.out HS.out (by omega)))⟩
    · have hX := pidD_long (tg := at') hh hsh
      have l1 := beN_lt (rest bs p 4)
      have l2 := beN_lt (rest bs (p + 4) 4)
      rw [rest_len (by omega)] at l1 l2
      obtain ⟨A, hA⟩ : ∃ A, beN (rest bs p 4) = A := ⟨_, rfl⟩
      obtain ⟨S, hS⟩ : ∃ S, beN (rest bs (p + 4) 4) = S := ⟨_, rfl⟩
      rw [hA] at hX l1
      rw [hS] at hX l2
      have HA := Lib.hid hA
      have HSS := Lib.hid hS
      have HX := Lib.hid hX
      have HSH := Lib.hid hsh
      have hple := (hostD_ok hh).2
      clear hh hA hS hX
      go_enter Tryd.func63, Tryd.ntmps63
      go_wp2_with fail
      refine (HH1.out).mono ?_
      rintro r w1 ⟨rfl, h1⟩
      have h2 := h1.okE HH.out
      obtain ⟨c0, c1, _, _, c4, _⟩ := Ds.cell h2.rp.blk
      simp only at c1 c4
      rw [HS.out] at c4
      have HN1 : Hid (∀ q, Calls Tryd.prog 42 #[.pointer (some ⟨rb, 0, none⟩), .int .i64 4] (w1.drewN q) fun r w' => r = .returned (.tuple #[.int .i64 A, .bool true]) ∧ Dw B w1 rb (.slice ao bs.length cap) sv bs w' sv { s with pos := p + 4 }) := Lib.hid (fun q => by
        have := dnum_ok B rb _ sv bs _ 4 hlen hpos (by omega) (w1.drewN q) (h2.rp.below (bel_drewN (Below.refl _ _) q)) (by show p + 4 ≤ _; omega)
        simp only [HA.out] at this
        exact this.mono fun r w' hr => ⟨hr.1, Dw.behind (bel_drewN (Below.refl _ _) q) hr.2⟩)
      have HW2 := Lib.hid h2
      obtain ⟨d, hd⟩ : ∃ d, bs.length - p = d := ⟨_, rfl⟩
      have e2 : IntKind.i64.wrap ((bs.length : Int) - (p : Int)) = (d : Int) := by rw [IntKind.wrap_i64]; omega
      have e3 : (bs.length : Int) - (p : Int) = (d : Int) := by omega
      have q1 : decide ((d : Int) < 12) = false := decide_eq_false (by omega)
      have q2 : decide (d < 12) = false := decide_eq_false (by omega)
      clear h1 h2 hsh hd hple hbc hbm
      go_wp2_with fail
      go_quiet (fail)
      go_wp2_with fail
      refine (HN1.out _).mono ?_
      rintro r w3 ⟨rfl, h3⟩
      have HW3 := Lib.hid (HW2.out.trans h3)
      have HN2 := Lib.hid (dnum_ok B rb _ sv bs _ 4 hlen hpos (by omega) w3 h3.rp (by have := HSH.out; show p + 4 + 4 ≤ _; omega))
      simp only [HSS.out] at HN2
      clear h3 HN1 q1 q2 e2 e3 c0 c1 c4
      go_wp2_with fail
      refine (HN2.out).mono ?_
      rintro r w4 ⟨rfl, h4⟩
      have HW4 := Lib.hid (HW3.out.trans h4)
      have HN3 := Lib.hid (dnum_ok B rb _ sv bs _ 4 hlen hpos (by omega) w4 h4.rp (by have := HSH.out; show p + 4 + 4 + 4 ≤ _; omega))
      clear h4 HN2
      go_wp2_with fail
      refine (HN3.out).mono ?_
      rintro r w5 ⟨rfl, h5⟩
      have HW5 := Lib.hid (HW4.out.trans h5)
      have H7 := Lib.hid (dfail_any B rb _ sv bs _ 1 at' w5 h5.rp)
      have HLF : Hid (∀ (k : Int), Calls Tryd.prog 56 #[.pointer (some ⟨rb, 0, none⟩), .agg #[.int .i64 4, .int .i64 k, .string ⟨#[]⟩], .int .i64 at'] w5 (DPost B w5 rb (.slice ao bs.length cap) sv bs (madeD s.rs (p + 4 + 4 + 4) at' ⟨4, k, ⟨#[]⟩⟩))) := Lib.hid (fun k =>
        dleaf_made B rb _ sv bs _ 4 k ⟨#[]⟩ at' w5 h5.rp HS.out HO.out.1 HO.out.2)
      clear h5 HN3
      by_cases h256 : 256 < S
      · have HF : Hid ((pidD bs s.pos at').bind (fun x => madeD s.rs x.2 at' ⟨4, x.1, ⟨#[]⟩⟩) = .bad 1 at') := Lib.hid (by rw [HX.out, if_pos (.inl h256)]; rfl)
        have t1 : decide ((256 : Int) < (S : Int)) = true := decide_eq_true (by omega)
        have t2 : decide (256 < S) = true := decide_eq_true (by omega)
        clear h256
        go_wp2_with fail
        refine (H7.out).mono ?_
        rintro r w6 ⟨rfl, h6⟩
        have HW6 := Lib.hid h6
        clear h6
        go_wp2_with fail
        refine bodyPost_ret (results_none rfl _ _ _) rfl ⟨rfl, ResP.badI HF.out (DEr.behind HW5.out (.fail HW6.out HS.out (by omega)))⟩
      · have t1 : decide ((256 : Int) < (S : Int)) = false := decide_eq_false (by omega)
        have t2 : decide (256 < S) = false := decide_eq_false (by omega)
        obtain ⟨v, hv⟩ : ∃ v, A + S * 4294967296 = v := ⟨_, rfl⟩
        have v1 : IntKind.i64.wrap ((S : Int) * 4294967296) = (S : Int) * 4294967296 := by rw [IntKind.wrap_i64]; omega
        have v2 : (A : Int) + (S : Int) * 4294967296 = (v : Int) := by omega
        have v3 : IntKind.i64.wrap ((A : Int) + (S : Int) * 4294967296) = (v : Int) := by rw [IntKind.wrap_i64]; omega
        have v4 : IntKind.i64.wrap (v : Int) = (v : Int) := by rw [IntKind.wrap_i64]; omega
        rw [hv] at HX
        by_cases hv1 : v < 1
        · have HF : Hid ((pidD bs s.pos at').bind (fun x => madeD s.rs x.2 at' ⟨4, x.1, ⟨#[]⟩⟩) = .bad 1 at') := Lib.hid (by rw [HX.out, if_pos (.inr (.inl hv1))]; rfl)
          have t3 : decide ((v : Int) < 1) = true := decide_eq_true (by omega)
          have t4 : decide (v < 1) = true := decide_eq_true (by omega)
          go_wp2_with fail
          refine (H7.out).mono ?_
          rintro r w6 ⟨rfl, h6⟩
          have HW6 := Lib.hid h6
          clear h6
          go_wp2_with fail
          refine bodyPost_ret (results_none rfl _ _ _) rfl ⟨rfl, ResP.badI HF.out (DEr.behind HW5.out (.fail HW6.out HS.out (by omega)))⟩
        · have t3 : decide ((v : Int) < 1) = false := decide_eq_false (by omega)
          have t4 : decide (v < 1) = false := decide_eq_false (by omega)
          by_cases hv2 : 1099511627776 < v
          · have HF : Hid ((pidD bs s.pos at').bind (fun x => madeD s.rs x.2 at' ⟨4, x.1, ⟨#[]⟩⟩) = .bad 1 at') := Lib.hid (by rw [HX.out, if_pos (.inr (.inr hv2))]; rfl)
            have t5 : decide ((1099511627776 : Int) < (v : Int)) = true := decide_eq_true (by omega)
            have t6 : decide (1099511627776 < v) = true := decide_eq_true (by omega)
            go_wp2_with fail
            refine (H7.out).mono ?_
            rintro r w6 ⟨rfl, h6⟩
            have HW6 := Lib.hid h6
            clear h6
            go_wp2_with fail
            refine bodyPost_ret (results_none rfl _ _ _) rfl ⟨rfl, ResP.badI HF.out (DEr.behind HW5.out (.fail HW6.out HS.out (by omega)))⟩
          · have HF : Hid ((pidD bs s.pos at').bind (fun x => madeD s.rs x.2 at' ⟨4, x.1, ⟨#[]⟩⟩) = madeD s.rs (p + 4 + 4 + 4) at' ⟨4, (v : Int), ⟨#[]⟩⟩) := Lib.hid (by rw [HX.out, if_neg (by omega)]; rfl)
            have t5 : decide ((1099511627776 : Int) < (v : Int)) = false := decide_eq_false (by omega)
            have t6 : decide (1099511627776 < v) = false := decide_eq_false (by omega)
            have H8 := Lib.hid (HLF.out (v : Int))
            go_wp2_with fail
            refine (H8.out).mono ?_
            rintro r w6 h6
            obtain rfl := h6.1
            have HW6 := Lib.hid h6
            clear h6
            go_wp2_with fail
            go_end0
            rw [HF.out]
            exact DPost.behind HW5.out HW6.out

set_option maxHeartbeats 3200000 in
set_option maxRecDepth 100000 in
theorem dbin_any (B rb : Nat) (bv sv : Value) (bs : List UInt8) (s : Ds) (at' : Nat) (hlen : bs.length ≤ 1048576) (hpos : 1 ≤ bs.length) (w : World) (h : Dp B w rb bv sv bs s) (hs : s.why = 0) (hcl : s.cells ≤ 1024) (hol : s.out.length ≤ 10000000) :
    Calls Tryd.prog 62 #[.pointer (some ⟨rb, 0, none⟩), .int .i64 at'] w (DPost B w rb bv sv bs ((numD bs s.pos 4).bind fun n => (takeD bs (s.pos + 4) n).bind fun l => if 1024 < n then .bad 4 at' else madeD s.rs (s.pos + 4 + n) at' ⟨8, 0, ⟨l.toArray⟩⟩)) := by
  have HS := Lib.hid hs
  have HO := Lib.hid (⟨hcl, hol⟩ : s.cells ≤ 1024 ∧ s.out.length ≤ 10000000)
  have H1 := dnum_any B rb bv sv bs s 4 hlen hpos (by omega) w h hs
  obtain ⟨X, hX⟩ : ∃ X, ((numD bs s.pos 4).bind fun n => (takeD bs (s.pos + 4) n).bind fun l => if 1024 < n then Res.bad 4 at' else madeD s.rs (s.pos + 4 + n) at' ⟨8, 0, ⟨l.toArray⟩⟩) = X := ⟨_, rfl⟩
  have HX := Lib.hid hX
  rw [hX]
  clear h hs hX
  cases hn : numD bs s.pos 4 with
  | bad e p =>
    have HF : Hid (X = .bad e p) := Lib.hid (by rw [← HX.out, hn]; rfl)
    have HH1 := Lib.hid (callsBad H1 hn)
    clear H1 hn
    go_enter Tryd.func62, Tryd.ntmps62
    go_wp2_with fail
    refine (HH1.out).mono ?_
    rintro r w1 ⟨rfl, hE⟩
    have HE := Lib.hid hE
    clear hE
    go_wp2_with fail
    refine bodyPost_ret (results_none rfl _ _ _) rfl ⟨rfl, ResP.badI HF.out HE.out⟩
  | ok n =>
    have HH1 := Lib.hid (callsOk H1 hn)
    have hnb := num_lt' hn
    cases hl : takeD bs (s.pos + 4) n with
    | bad e p =>
      have HF : Hid (X = .bad e p) := Lib.hid (by rw [← HX.out, hn]; simp only [Res.bind]; rw [hl])
      have HL := Lib.hid hl
      clear H1 hn hl
      go_enter Tryd.func62, Tryd.ntmps62
      go_wp2_with fail
      refine (HH1.out).mono ?_
      rintro r w1 ⟨rfl, h1⟩
      have HW1 := Lib.hid h1
      have H2 := Lib.hid (callsBad (dtake_any B rb bv sv bs _ n hlen hpos (by omega) w1 h1.rp HS.out) HL.out)
      clear h1
      go_wp2_with fail
      refine (H2.out).mono ?_
      rintro r w2 ⟨rfl, hE⟩
      have HE := Lib.hid (DEr.behind HW1.out hE)
      clear hE
      go_wp2_with fail
      refine bodyPost_ret (results_none rfl _ _ _) rfl ⟨rfl, ResP.badI HF.out HE.out⟩
    | ok l =>
      have HF : Hid (X = if 1024 < n then Res.bad 4 at' else madeD s.rs (s.pos + 4 + n) at' ⟨8, 0, ⟨l.toArray⟩⟩) := Lib.hid (by rw [← HX.out, hn]; simp only [Res.bind]; rw [hl])
      have HL := Lib.hid hl
      clear H1 hn hl
      go_enter Tryd.func62, Tryd.ntmps62
      go_wp2_with fail
      refine (HH1.out).mono ?_
      rintro r w1 ⟨rfl, h1⟩
      have HW1 := Lib.hid h1
      have H2 := Lib.hid (callsOk (dtake_any B rb bv sv bs _ n hlen hpos (by omega) w1 h1.rp HS.out) HL.out)
      clear h1
      go_wp2_with fail
      refine (H2.out).mono ?_
      rintro r w2 ⟨hll, ⟨g, off, cap, rfl, hrd⟩, h2⟩
      have HW2 := Lib.hid (HW1.out.trans h2)
      have hcv := run_str hrd.now hll
      by_cases hb : 1024 < n
      · have HFB : Hid (X = .bad 4 at') := Lib.hid (by rw [HF.out, if_pos hb])
        have t1 : decide ((1024 : Int) < (n : Int)) = true := decide_eq_true (by omega)
        have t2 : decide (1024 < n) = true := decide_eq_true (by omega)
        have H3 := Lib.hid (dfail_any B rb bv sv bs _ 4 at' w2 h2.rp)
        clear h2 hrd hcv hb
        go_wp2_with fail
        refine (H3.out).mono ?_
        rintro r w6 ⟨rfl, h6⟩
        have HW6 := Lib.hid h6
        clear h6
        go_wp2_with fail
        refine bodyPost_ret (results_none rfl _ _ _) rfl ⟨rfl, ResP.badI HFB.out (DEr.behind HW2.out (.fail HW6.out HS.out (by omega)))⟩
      · have HFB : Hid (X = madeD s.rs (s.pos + 4 + n) at' ⟨8, 0, ⟨l.toArray⟩⟩) := Lib.hid (by rw [HF.out, if_neg hb])
        have t1 : decide ((1024 : Int) < (n : Int)) = false := decide_eq_false (by omega)
        have t2 : decide (1024 < n) = false := decide_eq_false (by omega)
        obtain ⟨str, hstr⟩ : ∃ str : ByteArray, (⟨l.toArray⟩ : ByteArray) = str := ⟨_, rfl⟩
        rw [hstr] at hcv HFB
        have H3 := Lib.hid (dleaf_made B rb bv sv bs _ 8 0 str at' w2 h2.rp HS.out HO.out.1 HO.out.2)
        clear h2 hrd hb hstr
        go_wp2_with fail
        refine (H3.out).mono ?_
        rintro r w6 h6
        obtain rfl := h6.1
        have HW6 := Lib.hid h6
        clear h6
        go_wp2_with fail
        go_end0
        rw [HFB.out]
        exact DPost.behind HW2.out ⟨rfl, HW6.out.2⟩
end Go.Proofs.YtkhjdcnlpablkaaDoor

/-! The document's reader: a reference. -/
namespace Go.Proofs.YtkhjdcnlpablkaaDoor
open Go.RowKit
open Go.Lib (byteCells)

theorem refD_short {bs : List UInt8} {pos k p tg : Nat} (hk : numD bs pos 2 = .ok k) (hh : hostD bs (pos + 2) = .ok p) (h : bs.length < p + (4 + 4 * k)) : refD bs pos tg = .bad 62 bs.length := by
  unfold refD
  rw [hk]
  simp only [Res.bind]
  rw [hh]
  simp only
  by_cases h1 : bs.length < p + 4
  · have : numD bs p 4 = .bad 62 bs.length := by unfold numD; rw [if_pos h1]
    rw [this]
  · have : numD bs p 4 = .ok (beN (rest bs p 4)) := by unfold numD; rw [if_neg h1]
    rw [this]
    have h2 : takeD bs (p + 4) (4 * k) = .bad 62 bs.length := by unfold takeD; rw [if_pos (by omega)]
    simp only
    rw [h2]
theorem refD_long {bs b : List UInt8} {pos k p tg : Nat} (hk : numD bs pos 2 = .ok k) (hh : hostD bs (pos + 2) = .ok p) (h : takeD bs p (4 + 4 * k) = .ok b) : refD bs pos tg =
    match refV (b.drop 4) k with
    | none => .bad 1 tg
    | some n => .ok ((n : Int), p + (4 + 4 * k)) := by
  obtain ⟨h1, h2⟩ := takeD_ok h
  have e1 : numD bs p 4 = .ok (beN (rest bs p 4)) := by unfold numD; rw [if_neg (by omega)]
  have e2 : takeD bs (p + 4) (4 * k) = .ok (b.drop 4) := by
    unfold takeD
    rw [if_neg (by omega)]
    congr 1
    rw [h2]
    unfold rest
    rw [List.drop_take, List.drop_drop]
    congr 1
    omega
  unfold refD
  rw [hk]
  simp only [Res.bind]
  rw [hh]
  simp only
  rw [e1]
  simp only
  rw [e2]
  simp only
  rw [Nat.add_assoc]
  cases refV (b.drop 4) k <;> rfl

theorem DOk.back {B rb : Nat} {w w1 w2 : World} {bv sv : Value} {bs : List UInt8} {x : Rs} (hb : Below w.heap.size w w1) (k : DOk B w1 rb bv sv bs w2 x) : DOk B w rb bv sv bs w2 x := by
  obtain ⟨sv2, s2, h1, h2⟩ := k
  exact ⟨sv2, s2, Dw.behind hb h1, h2⟩
theorem DPost.back {B rb : Nat} {w w1 w2 : World} {bv sv : Value} {bs : List UInt8} {X : Res (Rs × Nat × Bool)} {r : Ending} (hb : Below w.heap.size w w1) (k : DPost B w1 rb bv sv bs X r w2) : DPost B w rb bv sv bs X r w2 := by
  refine ⟨k.1, ?_⟩
  cases X with
  | ok x => exact DOk.back hb k.2
  | bad e p => exact DEr.back hb k.2
/-- The four bytes of a word. -/
theorem ref_word {b : List UInt8} {k j : Nat} (hb : b.length = 4 + 4 * k) (hj : j < k) : ∃ a0 a1 a2 a3 : UInt8, b[4 + 4 * j]? = some a0 ∧ b[4 + 4 * j + 1]? = some a1 ∧ b[4 + 4 * j + 2]? = some a2 ∧ b[4 + 4 * j + 3]? = some a3 ∧
    refW (b.drop 4) j = a0.toNat * 16777216 + a1.toNat * 65536 + a2.toNat * 256 + a3.toNat := by
  have g : ∀ (i : Nat) (hi : i < 4), b[4 + 4 * j + i]? = some (b[4 + 4 * j + i]'(by omega)) := fun i hi => List.getElem?_eq_getElem (by omega)
  refine ⟨_, _, _, _, g 0 (by omega), g 1 (by omega), g 2 (by omega), g 3 (by omega), ?_⟩
  have h4 : ((b.drop 4).drop (4 * j)).take 4 = [b[4 + 4 * j]'(by omega), b[4 + 4 * j + 1]'(by omega), b[4 + 4 * j + 2]'(by omega), b[4 + 4 * j + 3]'(by omega)] := by
    apply List.ext_getElem?
    intro i
    by_cases hi : i < 4
    · rw [List.getElem?_take_of_lt hi, List.getElem?_drop, List.getElem?_drop, show 4 + (4 * j + i) = 4 + 4 * j + i by omega, g i hi]
      match i, hi with
      | 0, _ => rfl
      | 1, _ => rfl
      | 2, _ => rfl
      | 3, _ => rfl
    · rw [List.getElem?_eq_none (by rw [List.length_take]; omega), List.getElem?_eq_none (by simp; omega)]
  unfold refW rest
  rw [h4]
  simp [beN]
  omega

set_option maxHeartbeats 6400000 in
set_option maxRecDepth 100000 in
theorem dref_any (B rb : Nat) (bv sv : Value) (bs : List UInt8) (s : Ds) (at' : Nat) (hlen : bs.length ≤ 1048576) (hpos : 1 ≤ bs.length) (w : World) (h : Dp B w rb bv sv bs s) (hs : s.why = 0) (hcl : s.cells ≤ 1024) (hol : s.out.length ≤ 10000000) :
    Calls Tryd.prog 64 #[.pointer (some ⟨rb, 0, none⟩), .int .i64 at'] w (DPost B w rb bv sv bs ((refD bs s.pos at').bind fun x => madeD s.rs x.2 at' ⟨3, x.1, ⟨#[]⟩⟩)) := by
  have HS := Lib.hid hs
  have H := Lib.hid h
  have HO := Lib.hid (⟨hcl, hol⟩ : s.cells ≤ 1024 ∧ s.out.length ≤ 10000000)
  have H1 := dnum_any B rb bv sv bs s 2 hlen hpos (by omega) w h hs
  obtain ⟨X, hX⟩ : ∃ X, ((refD bs s.pos at').bind fun x => madeD s.rs x.2 at' ⟨3, x.1, ⟨#[]⟩⟩) = X := ⟨_, rfl⟩
  have HX := Lib.hid hX
  rw [hX]
  clear h hs hX
  cases hk : numD bs s.pos 2 with
  | bad e p =>
    have HF : Hid (X = .bad e p) := Lib.hid (by rw [← HX.out]; unfold refD; rw [hk]; rfl)
    have HH1 := Lib.hid (callsBad H1 hk)
    clear H1 hk
    go_enter Tryd.func64, Tryd.ntmps64
    go_wp2_with fail
    refine (HH1.out).mono ?_
    rintro r w1 ⟨rfl, hE⟩
    have HE := Lib.hid hE
    obtain ⟨sv1, s1, k1, k2, _, k4⟩ := hE
    have c4 := (Ds.cell k1.rp.blk).2.2.2.2.1
    rw [k2] at c4
    have q1 : ((e : Int) == 0) = false := by simp; omega
    have q2 : ((e : Int) != 0) = true := by simp; omega
    clear k1 k2 k4
    go_wp2_with fail
    refine bodyPost_ret (results_none rfl _ _ _) rfl ⟨rfl, ResP.badI HF.out HE.out⟩
  | ok k =>
    have HH1 := Lib.hid (callsOk H1 hk)
    have hkb := num_lt' hk
    cases hh : hostD bs (s.pos + 2) with
    | bad e p =>
      have HF : Hid (X = .bad e p) := Lib.hid (by rw [← HX.out]; unfold refD; rw [hk]; simp only [Res.bind]; rw [hh])
      have HH := Lib.hid hh
      clear H1 hk hh
      go_enter Tryd.func64, Tryd.ntmps64
      go_wp2_with fail
      refine (HH1.out).mono ?_
      rintro r w1 ⟨rfl, h1⟩
      have HW1 := Lib.hid h1
      have H2 := Lib.hid (dnamed_any B rb bv sv bs _ hlen hpos w1 h1.rp HS.out)
      clear h1
      go_wp2_with fail
      refine (H2.out).mono ?_
      rintro r w2 ⟨rfl, h2⟩
      have hE := h2.badE HH.out
      have HE := Lib.hid (DEr.behind HW1.out hE)
      obtain ⟨sv1, s1, k1, k2, _, k4⟩ := hE
      have c4 := (Ds.cell k1.rp.blk).2.2.2.2.1
      rw [k2] at c4
      have q1 : ((e : Int) == 0) = false := by simp; omega
      have q2 : ((e : Int) != 0) = true := by simp; omega
      clear h2 k1 k2 k4
      go_wp2_with fail
      refine bodyPost_ret (results_none rfl _ _ _) rfl ⟨rfl, ResP.badI HF.out HE.out⟩
    | ok p =>
      have HH := Lib.hid hh
      obtain ⟨m4, hm4⟩ : ∃ m4, 4 * k = m4 := ⟨_, rfl⟩
      obtain ⟨m8, hm8⟩ : ∃ m8, 4 + m4 = m8 := ⟨_, rfl⟩
      have k5 : (4 : Int) * (k : Int) = (m4 : Int) := by omega
      have k4 : IntKind.i64.wrap (m4 : Int) = (m4 : Int) := by rw [IntKind.wrap_i64]; omega
      have k6 : (4 : Int) + (m4 : Int) = (m8 : Int) := by omega
      have k7 : IntKind.i64.wrap (m8 : Int) = (m8 : Int) := by rw [IntKind.wrap_i64]; omega
      have hmm : 4 + 4 * k = m8 := by omega
      have hm8b : m8 ≤ 262144 := by omega
      have HMM := Lib.hid (⟨hm4, hm8⟩ : 4 * k = m4 ∧ 4 + m4 = m8)
      cases hl : takeD bs p m8 with
      | bad e q =>
        have HF : Hid (X = .bad 62 bs.length) := Lib.hid (by
          have : bs.length < p + m8 := by
            unfold takeD at hl
            split at hl
            · assumption
            · cases hl
          rw [← HX.out, refD_short hk hh (by omega)]; rfl)
        have he : takeD bs p m8 = .bad 62 bs.length := by
          unfold takeD at hl ⊢
          split at hl
          · rw [if_pos (by assumption)]
          · cases hl
        have HL := Lib.hid he
        clear H1 hk hh hl he hm4 hm8 hmm
        go_enter Tryd.func64, Tryd.ntmps64
        go_wp2_with fail
        refine (HH1.out).mono ?_
        rintro r w1 ⟨rfl, h1⟩
        have HW1 := Lib.hid h1
        have H2 := Lib.hid (dnamed_any B rb bv sv bs _ hlen hpos w1 h1.rp HS.out)
        clear h1
        go_wp2_with fail
        refine (H2.out).mono ?_
        rintro r w2 ⟨rfl, h2⟩
        replace h2 := h2.okE HH.out
        have c4 := (Ds.cell h2.rp.blk).2.2.2.2.1
        simp only at c4
        rw [HS.out] at c4
        have HW2 := Lib.hid (HW1.out.trans h2)
        have H3 := Lib.hid (callsBad (dtake_any B rb bv sv bs _ m8 hlen hpos (by omega) w2 h2.rp HS.out) HL.out)
        clear h2
        go_wp2_with fail
        refine (H3.out).mono ?_
        rintro r w3 ⟨rfl, hE⟩
        have HE := Lib.hid (DEr.behind HW2.out hE)
        clear hE
        go_wp2_with fail
        refine bodyPost_ret (results_none rfl _ _ _) rfl ⟨rfl, ResP.badI HF.out HE.out⟩
      | ok b =>
        have HF : Hid (X = (match refV (b.drop 4) k with | none => Res.bad 1 at' | some n => .ok ((n : Int), p + m8)).bind fun x => madeD s.rs x.2 at' ⟨3, x.1, ⟨#[]⟩⟩) := Lib.hid (by rw [← HX.out, refD_long hk hh (by rw [hmm]; exact hl), hmm])
        have HL := Lib.hid hl
        have hkl : m8 ≤ 1048576 := by have := (takeD_ok hl).1; omega
        clear H1 hk hh hl hm4 hm8 hmm
        go_enter Tryd.func64, Tryd.ntmps64
        go_wp2_with fail
        refine (HH1.out).mono ?_
        rintro r w1 ⟨rfl, h1⟩
        have HW1 := Lib.hid h1
        have H2 := Lib.hid (dnamed_any B rb bv sv bs _ hlen hpos w1 h1.rp HS.out)
        clear h1
        go_wp2_with fail
        refine (H2.out).mono ?_
        rintro r w2 ⟨rfl, h2⟩
        replace h2 := h2.okE HH.out
        have c4 := (Ds.cell h2.rp.blk).2.2.2.2.1
        simp only at c4
        rw [HS.out] at c4
        have HW2 := Lib.hid (HW1.out.trans h2)
        have H3 := Lib.hid (callsOk (dtake_any B rb bv sv bs _ m8 hlen hpos (by omega) w2 h2.rp HS.out) HL.out)
        clear h2
        go_wp2_with fail
        refine (H3.out).mono ?_
        rintro r w3 ⟨hbl, ⟨g, off, cap, rfl, hrd⟩, h3⟩
        have HBL := Lib.hid hbl
        have HRD := Lib.hid hrd
        have HW3 := Lib.hid (HW2.out.trans h3)
        have HR3 := Lib.hid h3.rp
        obtain ⟨_, _, _, hrv, hcap, hcapm, _⟩ := hrd.now.at (by omega)
        simp at hrv
        obtain ⟨⟨rfl, rfl⟩, rfl⟩ := hrv
        unfold maxLen at hcapm
        clear h3 hrd c4 hbl
        have H7 : Hid (∀ W, Below w3.heap.size w3 W → Calls Tryd.prog 33 #[.pointer (some ⟨rb, 0, none⟩), .int .i64 1, .int .i64 at'] W fun r w' => r = .returned (.tuple #[]) ∧ DEr B w rb bv sv bs 1 at' w') := Lib.hid (fun W hW =>
          (dfail_any B rb bv sv bs _ 1 at' W (HR3.out.below hW)).mono fun r w' hr => ⟨hr.1, DEr.behind HW3.out (DEr.back hW (.fail hr.2 HS.out (by omega)))⟩)
        have HLF : Hid (∀ W, Below w3.heap.size w3 W → ∀ (v : Int), Calls Tryd.prog 56 #[.pointer (some ⟨rb, 0, none⟩), .agg #[.int .i64 3, .int .i64 v, .string ⟨#[]⟩], .int .i64 at'] W (DPost B w rb bv sv bs (madeD s.rs (p + m8) at' ⟨3, v, ⟨#[]⟩⟩))) := Lib.hid (fun W hW v =>
          (dleaf_made B rb bv sv bs _ 3 v ⟨#[]⟩ at' W (HR3.out.below hW) HS.out HO.out.1 HO.out.2).mono fun r w' hr => DPost.behind HW3.out (DPost.back hW hr))
        by_cases hk1 : k < 1
        · obtain rfl : k = 0 := by omega
          have HSP := Lib.hid (RefI.start (b.drop 4) 0)
          have HFB : Hid (X = .bad 1 at') := Lib.hid (by rw [HF.out, HSP.out.1 rfl]; rfl)
          have H7b := Lib.hid (H7.out w3 (Below.refl _ _))
          go_wp2_with fail
          go_loopg [7, 8, 9, 10] 0 (fun g s7 s8 s9 _ wr => s7 = .int .i64 0 ∧ s8 = .bool true ∧ s9 = .int .i64 0 ∧ wr = w3)
          case atStart => exact ⟨rfl, rfl, rfl, rfl⟩
          case round =>
            obtain ⟨rfl, rfl, rfl, rfl⟩ := hrel
            go_wp2_with fail
            refine (H7b.out).mono ?_
            rintro r w5 ⟨rfl, hE⟩
            have HE := Lib.hid hE
            clear hE
            go_wp2_with fail
            refine bodyPost_ret (results_none rfl _ _ _) rfl ⟨rfl, ResP.badI HFB.out HE.out⟩
        · have hk1' : decide ((k : Int) < 1) = false := by simp; omega
          obtain ⟨sp, hsp⟩ : ∃ sp, decide (5 < (k : Int)) = sp := ⟨_, rfl⟩
          have HSP := Lib.hid (RefI.start (b.drop 4) k)
          rw [show (decide (k < 1) || decide (5 < k)) = sp by rw [← hsp]; rw [show decide (k < 1) = false by simp; omega, Bool.false_or]; congr 1; simp; try omega] at HSP
          go_wp2_with fail
          go_loopg [7, 8, 9, 10] k (fun g s7 s8 s9 _ wr => ∃ (j : Nat) (n : Int) (sp : Bool), s7 = .int .i64 n ∧ s8 = .bool sp ∧ s9 = .int .i64 j ∧ j + g = k ∧ Below w3.heap.size w3 wr ∧ Hid (RefI (b.drop 4) k j sp n))
          case atStart => exact ⟨0, 0, sp, rfl, rfl, rfl, by omega, Below.refl _ _, HSP⟩
          case round =>
            clear HSP hsp
            obtain ⟨j, n, sp, rfl, rfl, rfl, hjg, hbe, HI⟩ := hrel
            have HBE := Lib.hid hbe
            have H7b := Lib.hid (H7.out wr hbe)
            cases sp with
            | true =>
              have HFB : Hid (X = .bad 1 at') := Lib.hid (by rw [HF.out, HI.out.1 rfl]; rfl)
              clear hbe
              cases gk with
              | zero =>
                have qj : decide ((j : Int) < (k : Int)) = false := by simp; omega
                go_wp2_with fail
                refine (H7b.out).mono ?_
                rintro r w5 ⟨rfl, hE⟩
                have HE := Lib.hid hE
                clear hE
                go_wp2_with fail
                refine bodyPost_ret (results_none rfl _ _ _) rfl ⟨rfl, ResP.badI HFB.out HE.out⟩
              | succ g =>
                have qj : decide ((j : Int) < (k : Int)) = true := by simp; omega
                go_wp2_with fail
                refine (H7b.out).mono ?_
                rintro r w5 ⟨rfl, hE⟩
                have HE := Lib.hid hE
                clear hE
                go_wp2_with fail
                refine bodyPost_ret (results_none rfl _ _ _) rfl ⟨rfl, ResP.badI HFB.out HE.out⟩
            | false =>
              cases gk with
              | zero =>
                obtain rfl : j = k := by omega
                have hlast := HI.out.last
                clear hbe
                by_cases hn1 : n < 1
                · have HFB : Hid (X = .bad 1 at') := Lib.hid (by rw [HF.out, hlast, if_pos (.inl hn1)]; rfl)
                  have t1 : decide (n < 1) = true := decide_eq_true hn1
                  clear hlast
                  go_wp2_with fail
                  refine (H7b.out).mono ?_
                  rintro r w5 ⟨rfl, hE⟩
                  have HE := Lib.hid hE
                  clear hE
                  go_wp2_with fail
                  refine bodyPost_ret (results_none rfl _ _ _) rfl ⟨rfl, ResP.badI HFB.out HE.out⟩
                · have t1 : decide (n < 1) = false := decide_eq_false hn1
                  by_cases hn2 : 281474976710656 < n
                  · have HFB : Hid (X = .bad 1 at') := Lib.hid (by rw [HF.out, hlast, if_pos (.inr hn2)]; rfl)
                    have t2 : decide (281474976710656 < n) = true := decide_eq_true hn2
                    clear hlast
                    go_wp2_with fail
                    refine (H7b.out).mono ?_
                    rintro r w5 ⟨rfl, hE⟩
                    have HE := Lib.hid hE
                    clear hE
                    go_wp2_with fail
                    refine bodyPost_ret (results_none rfl _ _ _) rfl ⟨rfl, ResP.badI HFB.out HE.out⟩
                  · have HFB : Hid (X = madeD s.rs (p + m8) at' ⟨3, n, ⟨#[]⟩⟩) := Lib.hid (by
                      rw [HF.out, hlast, if_neg (by omega)]
                      show madeD s.rs (p + m8) at' ⟨3, ((n.toNat : Nat) : Int), ⟨#[]⟩⟩ = _
                      rw [show ((n.toNat : Nat) : Int) = n by omega])
                    have t2 : decide (281474976710656 < n) = false := decide_eq_false hn2
                    have H8 := Lib.hid (HLF.out wr HBE.out n)
                    clear hlast
                    go_wp2_with fail
                    refine (H8.out).mono ?_
                    rintro r w5 h5
                    obtain rfl := h5.1
                    have HP := Lib.hid h5
                    clear h5
                    go_wp2_with fail
                    go_end0
                    rw [HFB.out]
                    exact HP.out
              | succ g =>
                have hjk : j < k := by omega
                have qj : decide ((j : Int) < (k : Int)) = true := by simp; omega
                obtain ⟨a0, a1, a2, a3, b0, b1, b2, b3, hw⟩ := ref_word (b := b) (k := k) (j := j) (by have := HBL.out; have := HMM.out; omega) hjk
                have hrd := (HRD.out.step (hbe.mono HW3.out.rp.Ble)).now
                have y0 := cells_byte hrd b0 HBL.out
                have y1 := cells_byte hrd b1 HBL.out
                have y2 := cells_byte hrd b2 HBL.out
                have y3 := cells_byte hrd b3 HBL.out
                have u0 := UInt8.toNat_lt a0
                have u1 := UInt8.toNat_lt a1
                have u2 := UInt8.toNat_lt a2
                have u3 := UInt8.toNat_lt a3
                obtain ⟨z0, hz0⟩ : ∃ z, a0.toNat = z := ⟨_, rfl⟩
                obtain ⟨z1, hz1⟩ : ∃ z, a1.toNat = z := ⟨_, rfl⟩
                obtain ⟨z2, hz2⟩ : ∃ z, a2.toNat = z := ⟨_, rfl⟩
                obtain ⟨z3, hz3⟩ : ∃ z, a3.toNat = z := ⟨_, rfl⟩
                rw [hz0] at y0 u0 hw
                rw [hz1] at y1 u1 hw
                rw [hz2] at y2 u2 hw
                rw [hz3] at y3 u3 hw
                obtain ⟨i4, hi4⟩ : ∃ i4, 4 * j = i4 := ⟨_, rfl⟩
                rw [hi4] at y0 y1 y2 y3
                have hij : (4 : Int) * (j : Int) = (i4 : Int) := by omega
                have hi8 : i4 + 8 ≤ m8 := by have := HMM.out; omega
                obtain ⟨i0, e0⟩ : ∃ i0, 4 + i4 = i0 := ⟨_, rfl⟩
                obtain ⟨i1, e1⟩ : ∃ i1, 4 + i4 + 1 = i1 := ⟨_, rfl⟩
                obtain ⟨i2, e2⟩ : ∃ i2, 4 + i4 + 2 = i2 := ⟨_, rfl⟩
                obtain ⟨i3, e3⟩ : ∃ i3, 4 + i4 + 3 = i3 := ⟨_, rfl⟩
                rw [e0] at y0
                rw [e1] at y1
                rw [e2] at y2
                rw [e3] at y3
                have x0 : (4 : Int) + (i4 : Int) = (i0 : Int) := by omega
                have x1 : (5 : Int) + (i4 : Int) = (i1 : Int) := by omega
                have x2 : (6 : Int) + (i4 : Int) = (i2 : Int) := by omega
                have x3 : (7 : Int) + (i4 : Int) = (i3 : Int) := by omega
                have l0 : (i0 : Int) < (m8 : Int) := by omega
                have l1 : (i1 : Int) < (m8 : Int) := by omega
                have l2 : (i2 : Int) < (m8 : Int) := by omega
                have l3 : (i3 : Int) < (m8 : Int) := by omega
                have l0' : i0 < m8 := by omega
                have l1' : i1 < m8 := by omega
                have l2' : i2 < m8 := by omega
                have l3' : i3 < m8 := by omega
                have hm8c : m8 ≤ 1048576 := hkl
                have HW := Lib.hid hw
                clear hrd b0 b1 b2 b3 hz0 hz1 hz2 hz3 hw hi4 hbe e0 e1 e2 e3 hi8
                go_wp2_with fail
                go_quiet (fail)
                have hbe2 : Below w3.heap.size w3 (wr.drewN nq) := bel_drewN HBE.out nq
                have HBE2 := Lib.hid hbe2
                obtain ⟨x, hx⟩ : ∃ x, refW (b.drop 4) j = x := ⟨_, rfl⟩
                have hw := HW.out
                rw [hx] at hw
                have hxz : (z0 : Int) * 16777216 + (z1 : Int) * 65536 + (z2 : Int) * 256 + (z3 : Int) = (x : Int) := by omega
                rw [hxz]
                have hxb : x < 4294967296 := by omega
                have HXX := Lib.hid hx
                generalize wr.drewN nq = wq at hbe2 HBE2 ⊢
                clear y0 y1 y2 y3 u0 u1 u2 u3 x0 x1 x2 x3 l0 l1 l2 l3 l0' l1' l2' l3' hij hw hxz hx hbe2 HW HBE H7b
                by_cases hj0 : j = 0
                · subst hj0
                  have hf := HI.out.first
                  rw [HXX.out] at hf
                  have HF1 := Lib.hid hf
                  clear hf
                  go_wp2_with fail
                  go_roundg g
                  case measure => omega
                  case rel => exact ⟨1, x, false, rfl, rfl, rfl, by omega, HBE2.out, HF1⟩
                · by_cases hj1 : j = 1
                  · subst hj1
                    have hn4 : n < 4294967296 ∧ 0 ≤ n := by
                      have h3 := (HI.out.2 rfl).2.2.1
                      rw [if_neg (by omega)] at h3
                      have h4 : refX (b.drop 4) 1 = 0 := if_pos (by omega)
                      rw [h4] at h3
                      have h5 := refW_lt (b.drop 4) 0 (by rw [List.length_drop, HBL.out]; omega)
                      omega
                    obtain ⟨y, hy⟩ : ∃ y, IntKind.i64.wrap (n + IntKind.i64.wrap ((x : Int) * 4294967296)) = y := ⟨_, rfl⟩
                    have hys : x ≤ 65536 → y = n + (x : Int) * 4294967296 := by
                      intro hx6
                      rw [← hy, IntKind.wrap_i64, IntKind.wrap_i64]
                      omega
                    have hf := HI.out.second (m := y) (by omega) (by rw [HXX.out]; exact hys)
                    rw [HXX.out] at hf
                    obtain ⟨sq, hsq⟩ : ∃ sq, decide ((65536 : Int) < (x : Int)) = sq := ⟨_, rfl⟩
                    have hsq' : decide (65536 < x) = sq := by rw [← hsq]; exact decide_eq_decide.2 (by omega)
                    rw [hsq'] at hf
                    have HF1 := Lib.hid hf
                    clear hf hys hj0
                    go_wp2_with fail
                    go_roundg g
                    case measure => omega
                    case rel => exact ⟨2, y, sq, by rw [← hy, w64, w64], rfl, rfl, by omega, HBE2.out, HF1⟩
                  · have hf := HI.out.more (by omega) hjk
                    rw [HXX.out] at hf
                    obtain ⟨sq, hsq⟩ : ∃ sq, decide (x ≠ 0) = sq := ⟨_, rfl⟩
                    rw [hsq] at hf
                    have hsq' : ((x : Int) != 0) = sq := by rw [← hsq]; by_cases hx0 : x = 0 <;> simp [hx0]
                    have HF1 := Lib.hid hf
                    have r0 : ((j : Int) == 0) = false := by simp; omega
                    have r1 : ((j : Int) == 1) = false := by simp; omega
                    clear hf
                    go_wp2_with fail
                    go_roundg g
                    case measure => omega
                    case rel => exact ⟨j + 1, n, sq, rfl, rfl, by go_num, by omega, HBE2.out, HF1⟩
end Go.Proofs.YtkhjdcnlpablkaaDoor

/-! The document's reader: a list of bytes. -/
namespace Go.Proofs.YtkhjdcnlpablkaaDoor
open Go.RowKit
open Go.Lib (byteCells)

/-- APPEND of cells that are built on the spot, to what the document's reader gathers. -/
theorem wpList_dcells {w : World} {ops : Array Oper} {rest : List Oper} {o : Oper} {a : Act} {Q : Exit → Act → World → Prop} (s x : Operand) {B rb : Nat} {bv sv : Value} {bs : List UInt8} {st : Ds} (news : List Ce) (vals : List Value) (m b : Nat) (hb : b = w.heap.size)
    (hgd : o.guard = none) (ho : o.op = .call { callee := .builtin .append, args := #[s, x], argTypes := #[24, 24] })
    (hs : a.eval s = sv) (hx : a.eval x = .slice (some ⟨b, 0, none⟩) m m) (h : Dp B w rb bv sv bs st) (hcs : vals = cvs news) (hm : news.length = m) (hl : st.out.length + m ≤ 100000000)
    (k : ∀ ao cap w', w'.cell? ⟨rb, 2, none⟩ = some sv → w'.frozen? ⟨rb, 2, none⟩ = false →
      Dw B w rb bv sv bs (w'.setCell ⟨rb, 2, none⟩ (.slice ao (st.out.length + m) cap)) (.slice ao (st.out.length + m) cap) { st with out := st.out ++ news } → wpList Tryd.prog ops Q rest (a.put o.dst (.slice ao (st.out.length + m) cap)) w') :
    wpList Tryd.prog ops Q (o :: rest) a (w.alloc (.cells vals.toArray 60)) := by
  obtain ⟨i0, hinf, hz0, hz1, hz2⟩ := info_parts Tryd.info60
  subst hcs hm hb
  have hA := h.below (bel_box w (.cells (cvs news).toArray 60))
  refine wpList_append_sl hgd s x 24 ho 60 i0 (.agg #[.int .i64 0, .int .i64 0, .string ByteArray.empty]) 3 32 Tryd.underlying24 hinf hz0 hz1 hz2 rfl (by decide) sv st.out.length (cvs st.out) hs hA.sl ⟨w.heap.size, 0, none⟩ news.length news.length (cvs news) hx
    (cvs_len news) (cells_new w _ 60) (cvs_one' news) (by unfold maxLen; omega) (by omega) ?_
  intro v' w' hsl hfr hown
  obtain ⟨ao, cap, rfl, _, _⟩ := hsl.shape
  have hq := hA.app (c := news) (n' := st.out.length + news.length) (by rw [List.length_append]) hsl hfr (hown.imp id fun e k hk => by rw [e] at hk; cases hk; exact Nat.le_refl _)
  have hne := hA.sl.ne (c := #[bv, .int .i64 st.pos, sv, .int .i64 st.cells, .int .i64 st.why, .int .i64 st.place]) hA.blk (by decide)
  have hb3 : w'.heap[rb]? = some (st.blk bv sv) := hfr.at hA.blk (fun e => hne _ e rfl)
  exact k ao cap w' (Ds.cell hb3).2.2.1 (blk_free hb3 2) (hq.behind (bel_box _ _))

def dcharsD (bs : List UInt8) (s : Ds) (at' : Nat) : Res (Rs × Nat × Bool) :=
  (numD bs s.pos 2).bind fun n => (takeD bs (s.pos + 2) n).bind fun l => if 1024 < s.cells + (2 * n + 1) then .bad 7 at' else .ok (⟨s.pos + 2 + n, s.cells + (2 * n + 1), s.out ++ charCs l ++ [nilC]⟩, 0, false)

set_option maxHeartbeats 3200000 in
set_option maxRecDepth 100000 in
theorem dsmall_any (B rb : Nat) (bv sv : Value) (bs : List UInt8) (s : Ds) (at' : Nat) (hlen : bs.length ≤ 1048576) (hpos : 1 ≤ bs.length) (w : World) (h : Dp B w rb bv sv bs s) (hs : s.why = 0) (hcl : s.cells ≤ 1024) (hol : s.out.length ≤ 10000000) :
    Calls Tryd.prog 60 #[.pointer (some ⟨rb, 0, none⟩), .int .i64 at'] w (DPost B w rb bv sv bs (dcharsD bs s at')) := by
  have HS := Lib.hid hs
  have H := Lib.hid h
  have HC := Lib.hid (⟨hcl, hol⟩ : s.cells ≤ 1024 ∧ s.out.length ≤ 10000000)
  have H1 := dnum_any B rb bv sv bs s 2 hlen hpos (by omega) w h hs
  obtain ⟨X, hX⟩ : ∃ X, dcharsD bs s at' = X := ⟨_, rfl⟩
  have HX := Lib.hid (show X = dcharsD bs s at' from hX.symm)
  rw [hX]
  clear h hs hX
  cases hk : numD bs s.pos 2 with
  | bad e p =>
    replace H1 := Lib.hid (callsBad H1 hk)
    have HF : Hid (X = .bad e p) := Lib.hid (by rw [HX.out]; unfold dcharsD; rw [hk]; rfl)
    clear hk
    go_enter Tryd.func60, Tryd.ntmps60
    go_wp2_with fail
    refine (H1.out).mono ?_
    rintro r wx ⟨rfl, hE⟩
    have HE := Lib.hid hE
    clear hE
    go_wp2_with fail
    refine bodyPost_ret (results_none rfl _ _ _) rfl ⟨rfl, ResP.badI HF.out HE.out⟩
  | ok n =>
    replace H1 := Lib.hid (callsOk H1 hk)
    have hkb := num_lt' hk
    cases hl : takeD bs (s.pos + 2) n with
    | bad e q =>
      have HF : Hid (X = .bad e q) := Lib.hid (by rw [HX.out]; unfold dcharsD; rw [hk]; simp only [Res.bind]; rw [hl])
      have HL := Lib.hid hl
      clear hk hl
      go_enter Tryd.func60, Tryd.ntmps60
      go_wp2_with fail
      refine (H1.out).mono ?_
      rintro r w1 ⟨rfl, h1⟩
      have H2 := Lib.hid (callsBad (dtake_any B rb bv sv bs _ n hlen hpos (by omega) w1 h1.rp HS.out) HL.out)
      have HW1 := Lib.hid h1
      clear h1
      go_wp2_with fail
      refine (H2.out).mono ?_
      rintro r wx ⟨rfl, hE⟩
      have HE := Lib.hid (DEr.behind HW1.out hE)
      clear hE
      go_wp2_with fail
      refine bodyPost_ret (results_none rfl _ _ _) rfl ⟨rfl, ResP.badI HF.out HE.out⟩
    | ok l =>
      have HL := Lib.hid hl
      have HF : Hid (X = if 1024 < s.cells + (2 * n + 1) then .bad 7 at' else .ok (⟨s.pos + 2 + n, s.cells + (2 * n + 1), s.out ++ charCs l ++ [nilC]⟩, 0, false)) := Lib.hid (by rw [HX.out]; unfold dcharsD; rw [hk]; simp only [Res.bind]; rw [hl])
      clear hk hl
      go_enter Tryd.func60, Tryd.ntmps60
      go_wp2_with fail
      refine (H1.out).mono ?_
      rintro r w1 ⟨rfl, h1⟩
      have H2 := Lib.hid (callsOk (dtake_any B rb bv sv bs _ n hlen hpos (by omega) w1 h1.rp HS.out) HL.out)
      have HW1 := Lib.hid h1
      clear h1
      go_wp2_with fail
      refine (H2.out).mono ?_
      rintro r w2 ⟨hll, ⟨g, off, cap, rfl, hrd⟩, h2⟩
      have HLL := Lib.hid hll
      have HRD := Lib.hid hrd
      have HW2 := Lib.hid (HW1.out.trans h2)
      obtain ⟨k, hk⟩ : ∃ k, 2 * n + 1 = k := ⟨_, rfl⟩
      have e1 : IntKind.i64.wrap (2 * (n : Int)) = 2 * (n : Int) := wraps_i64 _ (by omega) (by omega)
      have e2 : IntKind.i64.wrap (2 * (n : Int) + 1) = (k : Int) := by rw [wraps_i64 _ (by omega) (by omega)]; omega
      have e6 : 2 * (n : Int) + 1 = (k : Int) := by omega
      have e7 : IntKind.i64.wrap (k : Int) = (k : Int) := wraps_i64 _ (by omega) (by omega)
      have HK := Lib.hid hk
      rw [hk] at HF
      have H3 := Lib.hid (dcount_any B rb bv sv bs _ k at' w2 h2.rp HC.out.1 (by omega))
      have HR2 := Lib.hid h2.rp
      clear h2 hrd hk hll
      go_wp2_with fail
      refine (H3.out).mono ?_
      rintro r w3 ⟨rfl, h3⟩
      by_cases hbig : 1024 < s.cells + k
      · have HFB : Hid (X = .bad 7 at') := Lib.hid (by rw [HF.out, if_pos hbig])
        rw [show (Ds.count { s with pos := s.pos + 2 + n } k at') = Ds.fail { s with pos := s.pos + 2 + n } 7 at' from if_pos hbig] at h3
        have hE : DEr B w rb bv sv bs 7 at' w3 := DEr.behind HW2.out (.fail h3 HS.out (by omega))
        have c4 := (Ds.cell h3.rp.blk).2.2.2.2.1
        rw [Ds.fail_zero (s := { s with pos := s.pos + 2 + n }) HS.out] at c4
        simp only at c4
        have HE := Lib.hid hE
        clear h3 hE hbig
        go_wp2_with fail
        refine bodyPost_ret (results_none rfl _ _ _) rfl ⟨rfl, ResP.badI HFB.out HE.out⟩
      · have HFG : Hid (X = .ok (⟨s.pos + 2 + n, s.cells + k, s.out ++ charCs l ++ [nilC]⟩, 0, false)) := Lib.hid (by rw [HF.out, if_neg hbig])
        obtain ⟨mk, hmk⟩ : ∃ mk, s.cells + k = mk := ⟨_, rfl⟩
        rw [show (Ds.count { s with pos := s.pos + 2 + n } k at') = { s with pos := s.pos + 2 + n, cells := s.cells + k } from if_neg hbig] at h3
        rw [hmk] at h3 HFG
        have c4 := (Ds.cell h3.rp.blk).2.2.2.2.1
        simp only at c4
        rw [HS.out] at c4
        have HU := Lib.hid h3
        clear h3 hbig hmk
        go_wp2_with fail
        clear c4
        go_loopg [8, 37] n (fun g _ s37 wr => ∃ (i : Nat) (sv2 : Value) (O : List Ce), s37 = .int .i64 i ∧ i + g = n ∧ Dw B w2 rb bv sv bs wr sv2 { s with pos := s.pos + 2 + n, cells := mk, out := O } ∧ Hid (O = s.out ++ charCs (l.take i)) ∧ O.length = s.out.length + 2 * i)
        case atStart => exact ⟨0, sv, s.out, rfl, by omega, HU.out, Lib.hid (by simp [charCs]), by omega⟩
        case round =>
          obtain ⟨i, sv2, O, rfl, hig, hR, HO, hOl⟩ := hrel
          obtain ⟨n0, hn0⟩ : ∃ n0, O.length = n0 := ⟨_, rfl⟩
          have hsl := hR.rp.sl
          simp only at hsl
          rw [hn0] at hsl
          obtain ⟨ao, cp, rfl, _, _⟩ := hsl.shape
          have c4 := (Ds.cell hR.rp.blk).2.2.1
          have HR := Lib.hid hR
          have HN0 := Lib.hid hn0
          clear hsl hR
          cases gk with
          | zero =>
            obtain rfl : i = n := by omega
            have HFE : Hid (X = .ok (⟨s.pos + 2 + i, mk, O ++ [nilC]⟩, 0, false)) := Lib.hid (by
              rw [HFG.out, HO.out, List.take_of_length_le (by rw [HLL.out]; omega)])
            go_wp2_with (at_builtin; refine wpList_dcells (.tmp 59) (.tmp 61) [nilC] _ 1 _ rfl rfl rfl rfl rfl HR.out.rp rfl rfl (by simp only; omega) ?next)
            case next =>
              intro ao2 cp2 w5 d4 f4 hq
              have HQ := Lib.hid hq
              clear hq
              go_wp2_with fail
              go_end0
              exact ⟨rfl, ResP.okI HFE.out ⟨_, _, HW2.out.trans (HR.out.trans HQ.out), HS.out, rfl⟩⟩
          | succ g' =>
            have hil : i < l.length := by have := HLL.out; omega
            obtain ⟨c, hc⟩ : ∃ c, l[i]? = some c := ⟨l[i], List.getElem?_eq_getElem _⟩
            have hck := cells_byte (HRD.out.step (HR.out.bel HR2.out)).now hc HLL.out
            have HCS : Hid (O ++ [consC, intC (c.toNat : Int)] = s.out ++ charCs (l.take (i + 1))) := Lib.hid (by rw [HO.out, charCs_snoc l i c hc, List.append_assoc])
            obtain ⟨y, hy⟩ : ∃ y, c.toNat = y := ⟨_, rfl⟩
            rw [hy] at hck HCS
            have hyb : y < 256 := by rw [← hy]; exact UInt8.toNat_lt c
            have hkz : (i : Int) < (n : Int) := by omega
            have HIG := Lib.hid hig
            clear hc hy hil
            go_wp2_with (at_builtin; refine wpList_dcells (.tmp 45) (.tmp 50) [consC, intC (y : Int)] _ 2 _ rfl rfl rfl rfl rfl HR.out.rp rfl rfl (by simp only; omega) ?next)
            case next =>
              intro ao2 cp2 w5 d4 f4 hq
              have HQ := Lib.hid hq
              clear hq
              go_wp2_with fail
              go_roundg g'
              case measure => omega
              case rel => exact ⟨i + 1, _, _, by first | rfl | (congr 1; omega), by have := HIG.out; omega, HR.out.trans HQ.out, HCS, by simp; omega⟩
end Go.Proofs.YtkhjdcnlpablkaaDoor

/-! Plain: terms one after another, split; how many cells there are. The document's tuple, list. -/
namespace Go.Proofs.YtkhjdcnlpablkaaDoor
open Go.RowKit
open Go.Lib (byteCells)

/-- What follows one step. -/
def OneX (bs : List UInt8) (Y : Res (Rs × Nat × Bool)) (X : Res Rs) : Prop := match Y with
  | .bad e p => X = .bad e p
  | .ok x => Runs bs x.2.1 x.2.2 x.1 X

theorem one_split {bs : List UInt8} {s : Rs} {X : Res Rs} (h : Runs bs 1 false s X) : OneX bs (oneD bs s) X := by
  obtain ⟨f, hf⟩ := h
  cases f with
  | zero => simp [kidsD] at hf
  | succ f =>
    rw [kidsD] at hf
    rw [show push false 0 s = s from rfl] at hf
    cases h1 : oneD bs s with
    | bad e p =>
      rw [h1] at hf
      simp only [Option.some.injEq] at hf
      exact hf.symm
    | ok x =>
      obtain ⟨s1, k1, c1⟩ := x
      rw [h1] at hf
      simp only at hf
      show Runs bs k1 c1 s1 X
      cases h2 : kidsD bs f k1 c1 s1 with
      | none => rw [h2] at hf; simp at hf
      | some y =>
        rw [h2] at hf
        cases y with
        | bad e p =>
          simp only [Option.some.injEq] at hf
          rw [← hf]
          exact ⟨f, h2⟩
        | ok s2 =>
          simp [kidsD] at hf
          rw [← hf]
          exact ⟨f, h2⟩

theorem kids_split {bs : List UInt8} {k : Nat} {c : Bool} {s : Rs} {Y : Res Rs} (h : Runs bs (k + 1) c s Y) :
    (∃ e p, Runs bs 1 false (push c k s) (.bad e p) ∧ Y = .bad e p) ∨ (∃ s2, Runs bs 1 false (push c k s) (.ok s2) ∧ Runs bs k c s2 Y) := by
  obtain ⟨f, hf⟩ := h
  cases f with
  | zero => simp [kidsD] at hf
  | succ f =>
    rw [kidsD] at hf
    cases h1 : oneD bs (push c k s) with
    | bad e p =>
      rw [h1] at hf
      simp only [Option.some.injEq] at hf
      exact .inl ⟨e, p, Runs.bad (by rw [show push false 0 (push c k s) = push c k s from rfl]; exact h1), hf.symm⟩
    | ok x =>
      obtain ⟨s1, k1, c1⟩ := x
      rw [h1] at hf
      simp only at hf
      cases h2 : kidsD bs f k1 c1 s1 with
      | none => rw [h2] at hf; simp at hf
      | some y =>
        rw [h2] at hf
        cases y with
        | bad e p =>
          simp only [Option.some.injEq] at hf
          exact .inl ⟨e, p, Runs.stop (c := false) (k := 0) (by rw [show push false 0 (push c k s) = push c k s from rfl]; exact h1) ⟨f, h2⟩, hf.symm⟩
        | ok s2 =>
          simp only at hf
          exact .inr ⟨s2, Runs.step (c := false) (k := 0) (by rw [show push false 0 (push c k s) = push c k s from rfl]; exact h1) ⟨f, h2⟩ Runs.zero, ⟨f, hf⟩⟩

theorem push_out (c : Bool) (k : Nat) (s : Rs) : (push c k s).out.length ≤ s.out.length + 1 := by
  unfold push
  split
  · simp
  · omega
theorem kids_out (bs : List UInt8) : ∀ (f k : Nat) (c : Bool) (s s' : Rs), kidsD bs f k c s = some (.ok s') → s'.out.length + s.cells + s.pos ≤ s.out.length + s'.cells + s'.pos ∧ (s.cells ≤ 1024 → s'.cells ≤ 1024)
  | _, 0, _, s, s', h => by
    simp [kidsD] at h
    subst h
    exact ⟨Nat.le_refl _, fun h => h⟩
  | 0, _ + 1, _, _, _, h => by simp [kidsD] at h
  | f + 1, k + 1, c, s, s', h => by
    rw [kidsD] at h
    cases h1 : oneD bs (push c k s) with
    | bad e p => rw [h1] at h; cases h
    | ok x =>
      obtain ⟨s1, k1, c1⟩ := x
      have ho := oneD_ok h1
      have hp := push_pos c k s
      have hq := push_out c k s
      rw [hp.1, hp.2] at ho
      rw [h1] at h
      simp only at h
      cases h2 : kidsD bs f k1 c1 s1 with
      | none => rw [h2] at h; cases h
      | some y =>
        rw [h2] at h
        cases y with
        | bad e p => cases h
        | ok s2 =>
          have a1 := kids_out bs f k1 c1 s1 s2 h2
          have a2 := kids_out bs f k c s2 s' h
          have a3 := a1.2 ho.2.2.1
          exact ⟨by omega, fun _ => a2.2 a3⟩
/-- What reading one term leaves. -/
theorem term_out {bs : List UInt8} {s s' : Rs} (h : Runs bs 1 false s (.ok s')) : s'.out.length + s.cells + s.pos + 1 ≤ s.out.length + s'.cells + s'.pos ∧ s'.cells ≤ 1024 ∧ s.pos < s'.pos ∧ s'.pos ≤ bs.length := by
  have h1 := one_split h
  cases h2 : oneD bs s with
  | bad e p => rw [h2] at h1; cases h1
  | ok x =>
    obtain ⟨s1, k1, c1⟩ := x
    rw [h2] at h1
    obtain ⟨f, hf⟩ := (show Runs bs k1 c1 s1 (.ok s') from h1)
    have ho := oneD_ok h2
    have a1 := kids_out bs f k1 c1 s1 s' hf
    have a3 := (kids_total bs (max f (bs.length + 1)) k1 c1 s1 (by omega) ho.2.1)
    obtain ⟨r, hr, hr2⟩ := a3
    rw [kids_le bs hf (Nat.le_max_left f (bs.length + 1))] at hr
    cases hr
    have := hr2 s' rfl
    exact ⟨by omega, a1.2 ho.2.2.1, by omega, by omega⟩
end Go.Proofs.YtkhjdcnlpablkaaDoor

/-! The document's reader: a tuple, a list. -/
namespace Go.Proofs.YtkhjdcnlpablkaaDoor
open Go.RowKit
open Go.Lib (byteCells)

/-- What reading terms leaves. -/
def DPx (B : Nat) (w : World) (rb : Nat) (bv sv : Value) (bs : List UInt8) (X : Res Rs) (r : Ending) (w' : World) : Prop :=
  r = .returned (.tuple #[]) ∧ ResP X (fun x => DOk B w rb bv sv bs w' x) (fun e p => DEr B w rb bv sv bs e p w')
theorem DPx.behind {B rb : Nat} {w w1 w2 : World} {bv sv sv1 : Value} {bs : List UInt8} {s1 : Ds} {X : Res Rs} {r : Ending} (h : Dw B w rb bv sv bs w1 sv1 s1) (k : DPx B w1 rb bv sv1 bs X r w2) : DPx B w rb bv sv bs X r w2 := by
  refine ⟨k.1, ?_⟩
  cases X with
  | ok x => exact DOk.behind h k.2
  | bad e p => exact DEr.behind h k.2

/-- What holds of a state that is read from. -/
structure DSt (bs : List UInt8) (s : Ds) : Prop where
  why : s.why = 0
  cells : s.cells ≤ 1024
  out : s.out.length ≤ s.cells + s.pos + 1
/-- Terms that begin less than M ahead of the end are read. -/
def DT (bs : List UInt8) (M : Nat) : Prop := ∀ (B rb : Nat) (bv sv : Value) (s : Ds) (w : World) (X : Res Rs), Dp B w rb bv sv bs s → DSt bs s → bs.length < s.pos + M → Runs bs 1 false s.rs X → Calls Tryd.prog 32 #[.pointer (some ⟨rb, 0, none⟩)] w (DPx B w rb bv sv bs X)

def tupD (bs : List UInt8) (s : Ds) (size at' : Nat) : Res (Rs × Nat × Bool) :=
  (numD bs s.pos size).bind fun n => if 255 < n then .bad 1 at' else (madeD s.rs (s.pos + size) at' ⟨5, n, ⟨#[]⟩⟩).bind fun x => .ok (x.1, n, false)

/-- A loop over terms: the state, or a fault. -/
def LpT (B : Nat) (w : World) (rb : Nat) (bv sv : Value) (bs : List UInt8) (c : Bool) (p0 k : Nat) (X : Res Rs) (wr : World) : Prop :=
  (∃ sv2 s2, Dw B w rb bv sv bs wr sv2 s2 ∧ s2.why = 0 ∧ s2.cells ≤ 1024 ∧ s2.out.length ≤ s2.cells + s2.pos ∧ p0 ≤ s2.pos ∧ Runs bs k c s2.rs X) ∨ (∃ e p, X = .bad e p ∧ DEr B w rb bv sv bs e p wr)

theorem DEr.why0 {B rb : Nat} {w w' : World} {bv sv : Value} {bs : List UInt8} {e p : Nat} (h : DEr B w rb bv sv bs e p w') : w'.cell? ⟨rb, 4, none⟩ = some (.int .i64 e) ∧ ((e : Int) == 0) = false ∧ ((e : Int) != 0) = true := by
  obtain ⟨sv1, s1, k1, k2, _, k4⟩ := h
  have c4 := (Ds.cell k1.rp.blk).2.2.2.2.1
  rw [k2] at c4
  exact ⟨c4, by simp; omega, by simp; omega⟩

set_option maxHeartbeats 3200000 in
set_option maxRecDepth 100000 in
theorem dtuple_any (M : Nat) (bs : List UInt8) (ih : DT bs M) (hlen : bs.length ≤ 1048576) (hpos : 1 ≤ bs.length) (B rb : Nat) (bv sv : Value) (s : Ds) (size at' : Nat) (hsz : size = 1 ∨ size = 4) (w : World) (X : Res Rs) (h : Dp B w rb bv sv bs s) (hst : DSt bs s)
    (hM : bs.length ≤ s.pos + M) (hX : OneX bs (tupD bs s size at') X) :
    Calls Tryd.prog 59 #[.pointer (some ⟨rb, 0, none⟩), .int .i64 size, .int .i64 at'] w (DPx B w rb bv sv bs X) := by
  have HST := Lib.hid hst
  have H := Lib.hid h
  have hle := h.le
  have hsz4 : 1 ≤ size ∧ size ≤ 4 := by omega
  have H1 := dnum_any B rb bv sv bs s size hlen hpos (by omega) w h hst.why
  clear h hst
  cases hn : numD bs s.pos size with
  | bad e p =>
    have HF : Hid (X = .bad e p) := Lib.hid (by unfold tupD at hX; rw [hn] at hX; exact hX)
    have HH1 := Lib.hid (callsBad H1 hn)
    clear H1 hn hX hsz
    go_enter Tryd.func59, Tryd.ntmps59
    go_wp2_with fail
    refine (HH1.out).mono ?_
    rintro r w1 ⟨rfl, hE⟩
    have HE := Lib.hid hE
    obtain ⟨c4, q1, q2⟩ := hE.why0
    clear hE
    go_wp2_with fail
    refine bodyPost_ret (results_none rfl _ _ _) rfl ⟨rfl, ResP.badI HF.out HE.out⟩
  | ok n =>
    have HH1 := Lib.hid (callsOk H1 hn)
    have hnb : n < 4294967296 := by
      have := num_lt' hn
      rcases hsz with rfl | rfl <;> omega
    have hno := (numD_ok hn).1
    by_cases h255 : 255 < n
    · have HF : Hid (X = .bad 1 at') := Lib.hid (by unfold tupD at hX; rw [hn] at hX; simp only [Res.bind, if_pos h255] at hX; exact hX)
      have t1 : decide ((255 : Int) < (n : Int)) = true := decide_eq_true (by omega)
      have t2 : decide (255 < n) = true := decide_eq_true (by omega)
      clear H1 hn hX hsz h255
      go_enter Tryd.func59, Tryd.ntmps59
      go_wp2_with fail
      refine (HH1.out).mono ?_
      rintro r w1 ⟨rfl, h1⟩
      have H2 := Lib.hid (dfail_any B rb bv sv bs _ 1 at' w1 h1.rp)
      have HW1 := Lib.hid h1
      clear h1
      go_wp2_with fail
      refine (H2.out).mono ?_
      rintro r w2 ⟨rfl, h2⟩
      have hE : DEr B w rb bv sv bs 1 at' w2 := DEr.behind HW1.out (.fail h2 HST.out.why (by omega))
      have HE := Lib.hid hE
      obtain ⟨c4, q1, q2⟩ := hE.why0
      clear hE h2
      go_wp2_with fail
      refine bodyPost_ret (results_none rfl _ _ _) rfl ⟨rfl, ResP.badI HF.out HE.out⟩
    · have t1 : decide ((255 : Int) < (n : Int)) = false := decide_eq_false (by omega)
      have t2 : decide (255 < n) = false := decide_eq_false (by omega)
      have HX : Hid (OneX bs ((madeD s.rs (s.pos + size) at' ⟨5, n, ⟨#[]⟩⟩).bind fun x => .ok (x.1, n, false)) X) := Lib.hid (by unfold tupD at hX; rw [hn] at hX; simp only [Res.bind, if_neg h255] at hX; exact hX)
      have hol := HST.out.out
      have hcl := HST.out.cells
      clear H1 hn hX hsz
      go_enter Tryd.func59, Tryd.ntmps59
      go_wp2_with fail
      refine (HH1.out).mono ?_
      rintro r w1 ⟨rfl, h1⟩
      have c4 := (Ds.cell h1.rp.blk).2.2.2.2.1
      simp only at c4
      rw [HST.out.why] at c4
      have H2 := Lib.hid (dleaf_made B rb bv sv bs _ 5 n ⟨#[]⟩ at' w1 h1.rp HST.out.why HST.out.cells (by simp only; omega))
      have HW1 := Lib.hid h1
      clear h1
      go_wp2_with fail
      refine (H2.out).mono ?_
      rintro r w2 ⟨rfl, h2⟩
      have hL : LpT B w1 rb bv sv bs false (s.pos + size) n X w2 := by
        cases hm : madeD s.rs (s.pos + size) at' ⟨5, n, ⟨#[]⟩⟩ with
        | bad e p =>
          have hx := HX.out
          rw [hm] at hx
          exact .inr ⟨e, p, hx, h2.badE hm⟩
        | ok x =>
          have hx := HX.out
          rw [hm] at hx
          obtain ⟨sv2, s2, k1, k2, k3⟩ := h2.okE hm
          obtain ⟨m1, m2⟩ := madeD_ok hm
          rw [m1] at k3 hx
          simp only [Res.bind] at hx
          have e1 : s2.pos = s.pos + size := congrArg Rs.pos k3
          have e2 : s2.cells = s.cells + 1 := congrArg Rs.cells k3
          have e3 : s2.out = s.out ++ [⟨5, n, ⟨#[]⟩⟩] := congrArg Rs.out k3
          refine .inl ⟨sv2, s2, k1, k2, by rw [e2]; exact m2, by rw [e1, e2, e3, List.length_append]; simp; omega, by omega, ?_⟩
          rw [k3]
          exact hx
      have HL := Lib.hid hL
      clear h2 hL c4 H2 HX
      go_wp2_with fail
      go_loopg [8] n (fun g s8 wr => ∃ i : Nat, s8 = .int .i64 i ∧ i + g = n ∧ Hid (LpT B w1 rb bv sv bs false (s.pos + size) g X wr))
      case atStart => exact ⟨0, rfl, by omega, HL⟩
      case round =>
        clear HL
        obtain ⟨i, rfl, hig, hI⟩ := hrel
        rcases hI.out with ⟨sv2, s2, k1, k2, k3, k4, k5, k6⟩ | ⟨e, p, k1, k2⟩
        · have c4 := (Ds.cell k1.rp.blk).2.2.2.2.1
          rw [k2] at c4
          cases gk with
          | zero =>
            obtain rfl : i = n := by omega
            have HF : Hid (X = .ok s2.rs) := Lib.hid (Runs.unique k6 Runs.zero)
            have HP : Hid (DOk B w rb bv sv bs wr s2.rs) := Lib.hid ⟨sv2, s2, HW1.out.trans k1, k2, rfl⟩
            clear k1 k2 k3 k4 k5 k6 hI
            go_wp2_with fail
            go_end0
            exact ⟨rfl, ResP.okI HF.out HP.out⟩
          | succ g =>
            have hin : (i : Int) < (n : Int) := by omega
            have qi : decide ((i : Int) < (n : Int)) = true := decide_eq_true hin
            have hIG := Lib.hid hig
            have HN : Hid (∃ Z, Runs bs 1 false s2.rs Z ∧ ((∃ e p, Z = .bad e p ∧ X = .bad e p) ∨ (∃ s3, Z = .ok s3 ∧ Runs bs g false s3 X))) := Lib.hid (by
              rcases kids_split k6 with ⟨e, p, h1, h2⟩ | ⟨s3, h1, h2⟩
              · exact ⟨_, h1, .inl ⟨e, p, rfl, h2⟩⟩
              · exact ⟨_, h1, .inr ⟨s3, rfl, h2⟩⟩)
            obtain ⟨Z, hZ1, hZ2⟩ := HN.out
            have H3 := Lib.hid (ih B rb bv sv2 s2 wr Z k1.rp ⟨k2, k3, by omega⟩ (by have := k1.rp.le; omega) hZ1)
            have HZ1 := Lib.hid hZ1
            have HZ2 := Lib.hid hZ2
            have HK := Lib.hid (⟨k3, k4, k5⟩ : s2.cells ≤ 1024 ∧ s2.out.length ≤ s2.cells + s2.pos ∧ s.pos + size ≤ s2.pos)
            have HK1 := Lib.hid k1
            clear k1 k2 k3 k4 k5 k6 hI hZ1 hZ2 HN
            go_wp2_with fail
            refine (H3.out).mono ?_
            rintro r w3 ⟨rfl, h3⟩
            have HL3 : Hid (LpT B w1 rb bv sv bs false (s.pos + size) g X w3) := Lib.hid (by
              rcases HZ2.out with ⟨e, p, hz, hx⟩ | ⟨s3, hz, hx⟩
              · exact .inr ⟨e, p, hx, DEr.behind HK1.out (h3.badE hz)⟩
              · obtain ⟨sv4, s4, j1, j2, j3⟩ := h3.okE hz
                have ht := HZ1.out
                rw [hz] at ht
                have ht := term_out ht
                have e1 : s4.pos = s3.pos := congrArg Rs.pos j3
                have e2 : s4.cells = s3.cells := congrArg Rs.cells j3
                have e3 : s4.out = s3.out := congrArg Rs.out j3
                have hk := HK.out
                simp only [Ds.rs] at ht
                exact .inl ⟨sv4, s4, HK1.out.trans j1, j2, by omega, by rw [e3]; omega, by omega, by rw [j3]; exact hx⟩)
            clear h3 c4
            go_wp2_with fail
            go_roundg g
            case measure => omega
            case rel => exact ⟨i + 1, by go_num, by have := hIG.out; omega, HL3⟩
        · have HF := Lib.hid k1
          have hE : DEr B w rb bv sv bs e p wr := DEr.behind HW1.out k2
          have HE := Lib.hid hE
          obtain ⟨c4, q1, q2⟩ := hE.why0
          clear k1 k2 hI hE
          cases gk with
          | zero =>
            obtain rfl : i = n := by omega
            go_wp2_with fail
            go_end0
            exact ⟨rfl, ResP.badI HF.out HE.out⟩
          | succ g =>
            have hin : (i : Int) < (n : Int) := by omega
            have qi : decide ((i : Int) < (n : Int)) = true := decide_eq_true hin
            go_wp2_with fail
            go_end0
            exact ⟨rfl, ResP.badI HF.out HE.out⟩
end Go.Proofs.YtkhjdcnlpablkaaDoor

/-! The document's reader: a list. -/
namespace Go.Proofs.YtkhjdcnlpablkaaDoor
open Go.RowKit
open Go.Lib (byteCells)

def dlistD (bs : List UInt8) (s : Ds) (at' : Nat) : Res (Rs × Nat × Bool) :=
  (numD bs s.pos 4).bind fun n => if 1024 < s.cells + n then .bad 7 at' else .ok (⟨s.pos + 4, s.cells + n, s.out⟩, n + 1, true)

theorem runs_true {bs : List UInt8} {s : Rs} {X : Res Rs} (h : Runs bs 1 true s X) : Runs bs 1 false s X := by
  rcases kids_split (k := 0) h with ⟨e, p, h1, h2⟩ | ⟨s2, h1, h2⟩
  · rw [h2]; exact h1
  · rw [Runs.unique h2 Runs.zero]; exact h1

set_option maxHeartbeats 3200000 in
set_option maxRecDepth 100000 in
theorem dlist_any (M : Nat) (bs : List UInt8) (ih : DT bs M) (hlen : bs.length ≤ 1048576) (hpos : 1 ≤ bs.length) (B rb : Nat) (bv sv : Value) (s : Ds) (at' : Nat) (w : World) (X : Res Rs) (h : Dp B w rb bv sv bs s) (hst : DSt bs s) (hso : s.out.length ≤ s.cells + s.pos)
    (hM : bs.length ≤ s.pos + M) (hX : OneX bs (dlistD bs s at') X) :
    Calls Tryd.prog 61 #[.pointer (some ⟨rb, 0, none⟩), .int .i64 at'] w (DPx B w rb bv sv bs X) := by
  have HST := Lib.hid hst
  have H := Lib.hid h
  have H1 := dnum_any B rb bv sv bs s 4 hlen hpos (by omega) w h hst.why
  clear h hst
  cases hn : numD bs s.pos 4 with
  | bad e p =>
    have HF : Hid (X = .bad e p) := Lib.hid (by unfold dlistD at hX; rw [hn] at hX; exact hX)
    have HH1 := Lib.hid (callsBad H1 hn)
    clear H1 hn hX
    go_enter Tryd.func61, Tryd.ntmps61
    go_wp2_with fail
    refine (HH1.out).mono ?_
    rintro r w1 ⟨rfl, hE⟩
    have HE := Lib.hid hE
    clear hE
    go_wp2_with fail
    refine bodyPost_ret (results_none rfl _ _ _) rfl ⟨rfl, ResP.badI HF.out HE.out⟩
  | ok n =>
    have HH1 := Lib.hid (callsOk H1 hn)
    have hnb : n < 4294967296 := num_lt' hn
    have HX : Hid (OneX bs (if 1024 < s.cells + n then .bad 7 at' else .ok (⟨s.pos + 4, s.cells + n, s.out⟩, n + 1, true)) X) := Lib.hid (by unfold dlistD at hX; rw [hn] at hX; exact hX)
    clear H1 hn hX
    have hcl := HST.out.cells
    go_enter Tryd.func61, Tryd.ntmps61
    go_wp2_with fail
    refine (HH1.out).mono ?_
    rintro r w1 ⟨rfl, h1⟩
    have H2 := Lib.hid (dcount_any B rb bv sv bs _ n at' w1 h1.rp HST.out.cells (by omega))
    have HW1 := Lib.hid h1
    clear h1
    go_wp2_with fail
    refine (H2.out).mono ?_
    rintro r w2 ⟨rfl, h2⟩
    have hL : LpT B w1 rb bv sv bs true (s.pos + 4) (n + 1) X w2 := by
      by_cases hb : 1024 < s.cells + n
      · have hx := HX.out
        rw [if_pos hb] at hx
        rw [show (Ds.count { s with pos := s.pos + 4 } n at') = Ds.fail { s with pos := s.pos + 4 } 7 at' from if_pos hb] at h2
        exact .inr ⟨7, at', hx, .fail h2 HST.out.why (by omega)⟩
      · have hx := HX.out
        rw [if_neg hb] at hx
        rw [show (Ds.count { s with pos := s.pos + 4 } n at') = { s with pos := s.pos + 4, cells := s.cells + n } from if_neg hb] at h2
        exact .inl ⟨_, _, h2, HST.out.why, by show s.cells + n ≤ 1024; omega, by show s.out.length ≤ s.cells + n + (s.pos + 4); omega, Nat.le_refl _, hx⟩
    have HL := Lib.hid hL
    clear h2 hL H2 HX
    go_wp2_with fail
    go_loopg [6] n (fun g s6 wr => ∃ i : Nat, s6 = .int .i64 i ∧ i + g = n ∧ Hid (LpT B w1 rb bv sv bs true (s.pos + 4) (g + 1) X wr))
    case atStart => exact ⟨0, rfl, by omega, HL⟩
    case round =>
      clear HL
      obtain ⟨i, rfl, hig, hI⟩ := hrel
      rcases hI.out with ⟨sv2, s2, k1, k2, k3, k4, k5, k6⟩ | ⟨e, p, k1, k2⟩
      · have c4 := (Ds.cell k1.rp.blk).2.2.2.2.1
        rw [k2] at c4
        cases gk with
        | zero =>
          obtain rfl : i = n := by omega
          have H3 := Lib.hid (ih B rb bv sv2 s2 wr X k1.rp ⟨k2, k3, by omega⟩ (by have := k1.rp.le; omega) (runs_true k6))
          have HK1 := Lib.hid (HW1.out.trans k1)
          clear k1 k2 k3 k4 k5 k6 hI
          go_wp2_with fail
          refine (H3.out).mono ?_
          rintro r w3 h3
          obtain rfl := h3.1
          have HP := Lib.hid (DPx.behind HK1.out h3)
          clear h3
          go_wp2_with fail
          go_end0
          exact HP.out
        | succ g =>
          have hin : (i : Int) < (n : Int) := by omega
          have qi : decide ((i : Int) < (n : Int)) = true := decide_eq_true hin
          have hIG := Lib.hid hig
          have hps : push true (g + 1) s2.rs = ⟨s2.pos, s2.cells, s2.out ++ [consC]⟩ := by
            unfold push
            rw [if_pos (by simp)]
            rfl
          have HN : Hid (∃ Z, Runs bs 1 false ⟨s2.pos, s2.cells, s2.out ++ [consC]⟩ Z ∧ ((∃ e p, Z = .bad e p ∧ X = .bad e p) ∨ (∃ s3, Z = .ok s3 ∧ Runs bs (g + 1) true s3 X))) := Lib.hid (by
            rcases kids_split k6 with ⟨e, p, h1, h2⟩ | ⟨s3, h1, h2⟩
            · rw [hps] at h1
              exact ⟨_, h1, .inl ⟨e, p, rfl, h2⟩⟩
            · rw [hps] at h1
              exact ⟨_, h1, .inr ⟨s3, rfl, h2⟩⟩)
          obtain ⟨Z, hZ1, hZ2⟩ := HN.out
          have HZ1 := Lib.hid hZ1
          have HZ2 := Lib.hid hZ2
          have HK := Lib.hid (⟨k2, k3, k4, k5, k1.rp.le⟩ : s2.why = 0 ∧ s2.cells ≤ 1024 ∧ s2.out.length ≤ s2.cells + s2.pos ∧ s.pos + 4 ≤ s2.pos ∧ s2.pos ≤ bs.length)
          obtain ⟨n0, hn0⟩ : ∃ n0, s2.out.length = n0 := ⟨_, rfl⟩
          have hsl := k1.rp.sl
          rw [hn0] at hsl
          obtain ⟨ao, cp, rfl, _, _⟩ := hsl.shape
          have c2 := (Ds.cell k1.rp.blk).2.2.1
          have HN0 := Lib.hid hn0
          have HK1 := Lib.hid k1
          clear k1 k2 k3 k4 k5 k6 hI hZ1 hZ2 HN hps hsl
          go_wp2_with (at_builtin; refine wpList_dcells (.tmp 34) (.tmp 36) [consC] _ 1 _ rfl rfl rfl rfl rfl HK1.out.rp rfl rfl (by have := HK.out; omega) ?next)
          case next =>
            intro ao2 cp2 w5 d4 f4 hq
            have HQ := Lib.hid hq
            have HW5 := Lib.hid (HK1.out.trans hq)
            have H3 := Lib.hid (ih B rb bv _ _ _ Z hq.rp ⟨HK.out.1, HK.out.2.1, by have := HK.out; simp only [List.length_append, List.length_cons, List.length_nil]; omega⟩ (by have := HK.out; show bs.length < s2.pos + M; omega) HZ1.out)
            clear hq c4 c2
            go_wp2_with fail
            refine (H3.out).mono ?_
            rintro r w3 ⟨rfl, h3⟩
            have HL3 : Hid (LpT B w1 rb bv sv bs true (s.pos + 4) (g + 1) X w3) := Lib.hid (by
              rcases HZ2.out with ⟨e, p, hz, hx⟩ | ⟨s3, hz, hx⟩
              · exact .inr ⟨e, p, hx, DEr.behind HW5.out (h3.badE hz)⟩
              · obtain ⟨sv4, s4, j1, j2, j3⟩ := h3.okE hz
                have ht := HZ1.out
                rw [hz] at ht
                have ht := term_out ht
                have e1 : s4.pos = s3.pos := congrArg Rs.pos j3
                have e2 : s4.cells = s3.cells := congrArg Rs.cells j3
                have e3 : s4.out = s3.out := congrArg Rs.out j3
                have hk := HK.out
                simp only [List.length_append, List.length_cons, List.length_nil] at ht
                exact .inl ⟨sv4, s4, HW5.out.trans j1, j2, by omega, by rw [e3]; omega, by omega, by rw [j3]; exact hx⟩)
            clear h3
            go_wp2_with fail
            go_roundg g
            case measure => omega
            case rel => exact ⟨i + 1, by go_num, by have := hIG.out; omega, HL3⟩
      · have HF := Lib.hid k1
        have hE : DEr B w rb bv sv bs e p wr := DEr.behind HW1.out k2
        have HE := Lib.hid hE
        obtain ⟨c4, q1, q2⟩ := hE.why0
        clear k1 k2 hI hE
        cases gk with
        | zero =>
          obtain rfl : i = n := by omega
          go_wp2_with fail
          go_end0
          exact ⟨rfl, ResP.badI HF.out HE.out⟩
        | succ g =>
          have hin : (i : Int) < (n : Int) := by omega
          have qi : decide ((i : Int) < (n : Int)) = true := decide_eq_true hin
          go_wp2_with fail
          go_end0
          exact ⟨rfl, ResP.badI HF.out HE.out⟩
end Go.Proofs.YtkhjdcnlpablkaaDoor

/-! The document's reader: a term. Printed by genDtrm.py. -/
namespace Go.Proofs.YtkhjdcnlpablkaaDoor
open Go.RowKit
open Go.Lib (byteCells)

theorem DPost.fin {B rb : Nat} {w w' : World} {bv sv : Value} {bs : List UInt8} {Y : Res (Rs × Nat × Bool)} {X : Res Rs} {r : Ending} (hX : OneX bs Y X) (h0 : ∀ x, Y = .ok x → x.2 = (0, false)) (h : DPost B w rb bv sv bs Y r w') : DPx B w rb bv sv bs X r w' := by
  refine ⟨h.1, ?_⟩
  cases Y with
  | bad e p => exact ResP.badI hX h.2
  | ok x =>
    have h2 := h0 x rfl
    have hX' : Runs bs x.2.1 x.2.2 x.1 X := hX
    rw [h2] at hX'
    exact ResP.okI (Runs.unique hX' Runs.zero) h.2
theorem made_two {s : Rs} {p tg : Nat} {c : Ce} {x : Rs × Nat × Bool} (h : madeD s p tg c = .ok x) : x.2 = (0, false) := by rw [(madeD_ok h).1]
theorem bind_two {α : Type} {Z : Res α} {f : α → Res (Rs × Nat × Bool)} (hf : ∀ a x, f a = .ok x → x.2 = (0, false)) : ∀ x, Z.bind f = .ok x → x.2 = (0, false) := fun x h => by
  obtain ⟨a, _, h2⟩ := Res.bind_ok h
  exact hf a x h2

theorem sgn_wrap (n : Nat) (h : n < 4294967296) : IntKind.i32.wrap (n : Int) = sgn4 n := by
  rw [IntKind.wrap_i32]
  unfold sgn4
  split <;> omega
theorem sgn_b (n : Nat) (h : n < 4294967296) : -2147483648 ≤ sgn4 n ∧ sgn4 n ≤ 2147483647 := by
  unfold sgn4
  split <;> omega

theorem body97 (bs : List UInt8) (s : Rs) (p : Nat) : bodyD bs s 97 p = (numD bs p 1).bind fun n => madeD s (p + 1) s.pos (intC n) := rfl
theorem body98 (bs : List UInt8) (s : Rs) (p : Nat) : bodyD bs s 98 p = (numD bs p 4).bind fun n => madeD s (p + 4) s.pos (intC (sgn4 n)) := rfl
theorem body118 (bs : List UInt8) (s : Rs) (p : Nat) : bodyD bs s 118 p = (textD bs p 118 s.pos).bind fun x => madeD s x.2 s.pos ⟨2, 0, x.1⟩ := rfl
theorem body119 (bs : List UInt8) (s : Rs) (p : Nat) : bodyD bs s 119 p = (textD bs p 119 s.pos).bind fun x => madeD s x.2 s.pos ⟨2, 0, x.1⟩ := rfl
theorem body105 (bs : List UInt8) (s : Rs) (p : Nat) : bodyD bs s 105 p = (numD bs p 4).bind fun n => if 255 < n then .bad 1 s.pos else (madeD s (p + 4) s.pos ⟨5, n, ⟨#[]⟩⟩).bind fun x => .ok (x.1, n, false) := rfl
theorem body108 (bs : List UInt8) (s : Rs) (p : Nat) : bodyD bs s 108 p = (numD bs p 4).bind fun n => if 1024 < s.cells + n then .bad 7 s.pos else .ok (⟨p + 4, s.cells + n, s.out⟩, n + 1, true) := rfl
theorem body104 (bs : List UInt8) (s : Rs) (p : Nat) : bodyD bs s 104 p = (numD bs p 1).bind fun n => if 255 < n then .bad 1 s.pos else (madeD s (p + 1) s.pos ⟨5, n, ⟨#[]⟩⟩).bind fun x => .ok (x.1, n, false) := by
  have h1 : bodyD bs s 104 p = (numD bs p 1).bind fun n => (madeD s (p + 1) s.pos ⟨5, n, ⟨#[]⟩⟩).bind fun x => .ok (x.1, n, false) := rfl
  rw [h1]
  cases hn : numD bs p 1 with
  | bad e q => rfl
  | ok n =>
    have := num_lt' hn
    simp only [Res.bind]
    rw [if_neg (by omega)]

section
variable (M : Nat) (bs : List UInt8) (ih : DT bs M) (hlen : bs.length ≤ 1048576) (hpos : 1 ≤ bs.length) (B rb : Nat) (bv sv : Value) (s : Ds) (c : UInt8) (w : World) (X : Res Rs) (h : Dp B w rb bv sv bs s) (hst : DSt bs s) (hM : bs.length < s.pos + (M + 1)) (htk : takeD bs s.pos 1 = .ok [c])

include hlen hpos h hst htk in
set_option maxHeartbeats 1600000 in
set_option maxRecDepth 100000 in
theorem dterm_110 (hc : c.toNat = 110) (hX : OneX bs (bodyD bs s.rs 110 (s.pos + 1)) X) : Calls Tryd.prog 32 #[.pointer (some ⟨rb, 0, none⟩)] w (DPx B w rb bv sv bs X) := by
  have HST := Lib.hid hst
  have HH1 := Lib.hid (callsOk (dtake_any B rb bv sv bs s 1 hlen hpos (by omega) w h hst.why) htk)
  have HX := Lib.hid hX
  have hcc : (byteCells [c])[0]? = some (.int .u8 110) := by unfold byteCells; simp [hc]
  obtain ⟨c0, c1, c2, c3, c4, c5⟩ := Ds.cell h.blk
  obtain ⟨at', hat⟩ : ∃ at', s.pos = at' := ⟨_, rfl⟩
  rw [hat] at c1
  have HAT := Lib.hid hat
  have hso := hst.out
  have hcl := hst.cells
  have hple := (takeD_ok htk).1
  clear hX hc htk h hst hat c0 c2 c3 c4 c5
  go_enter Tryd.func32, Tryd.ntmps32
  go_wp2_with fail
  refine (HH1.out).mono ?_
  rintro r w1 ⟨_, ⟨g, off, cap, rfl, hrd⟩, h1⟩
  obtain ⟨g', off', cap', hv, hr1, hr2, hr3⟩ := hrd.now.at (by omega)
  simp at hv
  obtain ⟨⟨rfl, rfl⟩, rfl⟩ := hv
  have d0 := hr3 0 (by omega)
  rw [hcc, Nat.add_zero] at d0
  have HRD := Lib.hid hrd
  have HW1 := Lib.hid h1
  have hs1 : DSt bs { s with pos := s.pos + 1 } := ⟨HST.out.why, HST.out.cells, by show s.out.length ≤ s.cells + (s.pos + 1) + 1; omega⟩
  clear hr1 hr2 hr3 h1 hrd hcc HH1 c1
  have H2 := Lib.hid (dbig_any B rb bv sv bs _ at' hlen hpos w1 HW1.out.rp HST.out.why HST.out.cells (by simp only; omega))
  clear hs1
  go_wp2_with fail
  refine (H2.out).mono ?_
  rintro r w3 h3
  obtain rfl := h3.1
  have HP := Lib.hid h3
  clear h3
  go_wp2_with fail
  go_end0
  rw [← HAT.out] at HP
  exact DPx.behind HW1.out (DPost.fin HX.out (bind_two fun _ _ h => made_two h) ⟨rfl, HP.out.2⟩)

include hlen hpos h hst htk in
set_option maxHeartbeats 1600000 in
set_option maxRecDepth 100000 in
theorem dterm_88 (hc : c.toNat = 88) (hX : OneX bs (bodyD bs s.rs 88 (s.pos + 1)) X) : Calls Tryd.prog 32 #[.pointer (some ⟨rb, 0, none⟩)] w (DPx B w rb bv sv bs X) := by
  have HST := Lib.hid hst
  have HH1 := Lib.hid (callsOk (dtake_any B rb bv sv bs s 1 hlen hpos (by omega) w h hst.why) htk)
  have HX := Lib.hid hX
  have hcc : (byteCells [c])[0]? = some (.int .u8 88) := by unfold byteCells; simp [hc]
  obtain ⟨c0, c1, c2, c3, c4, c5⟩ := Ds.cell h.blk
  obtain ⟨at', hat⟩ : ∃ at', s.pos = at' := ⟨_, rfl⟩
  rw [hat] at c1
  have HAT := Lib.hid hat
  have hso := hst.out
  have hcl := hst.cells
  have hple := (takeD_ok htk).1
  clear hX hc htk h hst hat c0 c2 c3 c4 c5
  go_enter Tryd.func32, Tryd.ntmps32
  go_wp2_with fail
  refine (HH1.out).mono ?_
  rintro r w1 ⟨_, ⟨g, off, cap, rfl, hrd⟩, h1⟩
  obtain ⟨g', off', cap', hv, hr1, hr2, hr3⟩ := hrd.now.at (by omega)
  simp at hv
  obtain ⟨⟨rfl, rfl⟩, rfl⟩ := hv
  have d0 := hr3 0 (by omega)
  rw [hcc, Nat.add_zero] at d0
  have HRD := Lib.hid hrd
  have HW1 := Lib.hid h1
  have hs1 : DSt bs { s with pos := s.pos + 1 } := ⟨HST.out.why, HST.out.cells, by show s.out.length ≤ s.cells + (s.pos + 1) + 1; omega⟩
  clear hr1 hr2 hr3 h1 hrd hcc HH1 c1
  have H2 := Lib.hid (dpid_any B rb bv sv bs _ at' hlen hpos w1 HW1.out.rp HST.out.why HST.out.cells (by simp only; omega))
  clear hs1
  go_wp2_with fail
  refine (H2.out).mono ?_
  rintro r w3 h3
  obtain rfl := h3.1
  have HP := Lib.hid h3
  clear h3
  go_wp2_with fail
  go_end0
  rw [← HAT.out] at HP
  exact DPx.behind HW1.out (DPost.fin HX.out (bind_two fun _ _ h => made_two h) ⟨rfl, HP.out.2⟩)

include hlen hpos h hst htk in
set_option maxHeartbeats 1600000 in
set_option maxRecDepth 100000 in
theorem dterm_90 (hc : c.toNat = 90) (hX : OneX bs (bodyD bs s.rs 90 (s.pos + 1)) X) : Calls Tryd.prog 32 #[.pointer (some ⟨rb, 0, none⟩)] w (DPx B w rb bv sv bs X) := by
  have HST := Lib.hid hst
  have HH1 := Lib.hid (callsOk (dtake_any B rb bv sv bs s 1 hlen hpos (by omega) w h hst.why) htk)
  have HX := Lib.hid hX
  have hcc : (byteCells [c])[0]? = some (.int .u8 90) := by unfold byteCells; simp [hc]
  obtain ⟨c0, c1, c2, c3, c4, c5⟩ := Ds.cell h.blk
  obtain ⟨at', hat⟩ : ∃ at', s.pos = at' := ⟨_, rfl⟩
  rw [hat] at c1
  have HAT := Lib.hid hat
  have hso := hst.out
  have hcl := hst.cells
  have hple := (takeD_ok htk).1
  clear hX hc htk h hst hat c0 c2 c3 c4 c5
  go_enter Tryd.func32, Tryd.ntmps32
  go_wp2_with fail
  refine (HH1.out).mono ?_
  rintro r w1 ⟨_, ⟨g, off, cap, rfl, hrd⟩, h1⟩
  obtain ⟨g', off', cap', hv, hr1, hr2, hr3⟩ := hrd.now.at (by omega)
  simp at hv
  obtain ⟨⟨rfl, rfl⟩, rfl⟩ := hv
  have d0 := hr3 0 (by omega)
  rw [hcc, Nat.add_zero] at d0
  have HRD := Lib.hid hrd
  have HW1 := Lib.hid h1
  have hs1 : DSt bs { s with pos := s.pos + 1 } := ⟨HST.out.why, HST.out.cells, by show s.out.length ≤ s.cells + (s.pos + 1) + 1; omega⟩
  clear hr1 hr2 hr3 h1 hrd hcc HH1 c1
  have H2 := Lib.hid (dref_any B rb bv sv bs _ at' hlen hpos w1 HW1.out.rp HST.out.why HST.out.cells (by simp only; omega))
  clear hs1
  go_wp2_with fail
  refine (H2.out).mono ?_
  rintro r w3 h3
  obtain rfl := h3.1
  have HP := Lib.hid h3
  clear h3
  go_wp2_with fail
  go_end0
  rw [← HAT.out] at HP
  exact DPx.behind HW1.out (DPost.fin HX.out (bind_two fun _ _ h => made_two h) ⟨rfl, HP.out.2⟩)

include hlen hpos h hst htk in
set_option maxHeartbeats 1600000 in
set_option maxRecDepth 100000 in
theorem dterm_109 (hc : c.toNat = 109) (hX : OneX bs (bodyD bs s.rs 109 (s.pos + 1)) X) : Calls Tryd.prog 32 #[.pointer (some ⟨rb, 0, none⟩)] w (DPx B w rb bv sv bs X) := by
  have HST := Lib.hid hst
  have HH1 := Lib.hid (callsOk (dtake_any B rb bv sv bs s 1 hlen hpos (by omega) w h hst.why) htk)
  have HX := Lib.hid hX
  have hcc : (byteCells [c])[0]? = some (.int .u8 109) := by unfold byteCells; simp [hc]
  obtain ⟨c0, c1, c2, c3, c4, c5⟩ := Ds.cell h.blk
  obtain ⟨at', hat⟩ : ∃ at', s.pos = at' := ⟨_, rfl⟩
  rw [hat] at c1
  have HAT := Lib.hid hat
  have hso := hst.out
  have hcl := hst.cells
  have hple := (takeD_ok htk).1
  clear hX hc htk h hst hat c0 c2 c3 c4 c5
  go_enter Tryd.func32, Tryd.ntmps32
  go_wp2_with fail
  refine (HH1.out).mono ?_
  rintro r w1 ⟨_, ⟨g, off, cap, rfl, hrd⟩, h1⟩
  obtain ⟨g', off', cap', hv, hr1, hr2, hr3⟩ := hrd.now.at (by omega)
  simp at hv
  obtain ⟨⟨rfl, rfl⟩, rfl⟩ := hv
  have d0 := hr3 0 (by omega)
  rw [hcc, Nat.add_zero] at d0
  have HRD := Lib.hid hrd
  have HW1 := Lib.hid h1
  have hs1 : DSt bs { s with pos := s.pos + 1 } := ⟨HST.out.why, HST.out.cells, by show s.out.length ≤ s.cells + (s.pos + 1) + 1; omega⟩
  clear hr1 hr2 hr3 h1 hrd hcc HH1 c1
  have H2 := Lib.hid (dbin_any B rb bv sv bs _ at' hlen hpos w1 HW1.out.rp HST.out.why HST.out.cells (by simp only; omega))
  clear hs1
  go_wp2_with fail
  refine (H2.out).mono ?_
  rintro r w3 h3
  obtain rfl := h3.1
  have HP := Lib.hid h3
  clear h3
  go_wp2_with fail
  go_end0
  rw [← HAT.out] at HP
  exact DPx.behind HW1.out (DPost.fin HX.out (bind_two fun _ => bind_two fun _ x h => by split at h; cases h; exact made_two h) ⟨rfl, HP.out.2⟩)

include hlen hpos h hst htk in
set_option maxHeartbeats 1600000 in
set_option maxRecDepth 100000 in
theorem dterm_107 (hc : c.toNat = 107) (hX : OneX bs (bodyD bs s.rs 107 (s.pos + 1)) X) : Calls Tryd.prog 32 #[.pointer (some ⟨rb, 0, none⟩)] w (DPx B w rb bv sv bs X) := by
  have HST := Lib.hid hst
  have HH1 := Lib.hid (callsOk (dtake_any B rb bv sv bs s 1 hlen hpos (by omega) w h hst.why) htk)
  have HX := Lib.hid hX
  have hcc : (byteCells [c])[0]? = some (.int .u8 107) := by unfold byteCells; simp [hc]
  obtain ⟨c0, c1, c2, c3, c4, c5⟩ := Ds.cell h.blk
  obtain ⟨at', hat⟩ : ∃ at', s.pos = at' := ⟨_, rfl⟩
  rw [hat] at c1
  have HAT := Lib.hid hat
  have hso := hst.out
  have hcl := hst.cells
  have hple := (takeD_ok htk).1
  clear hX hc htk h hst hat c0 c2 c3 c4 c5
  go_enter Tryd.func32, Tryd.ntmps32
  go_wp2_with fail
  refine (HH1.out).mono ?_
  rintro r w1 ⟨_, ⟨g, off, cap, rfl, hrd⟩, h1⟩
  obtain ⟨g', off', cap', hv, hr1, hr2, hr3⟩ := hrd.now.at (by omega)
  simp at hv
  obtain ⟨⟨rfl, rfl⟩, rfl⟩ := hv
  have d0 := hr3 0 (by omega)
  rw [hcc, Nat.add_zero] at d0
  have HRD := Lib.hid hrd
  have HW1 := Lib.hid h1
  have hs1 : DSt bs { s with pos := s.pos + 1 } := ⟨HST.out.why, HST.out.cells, by show s.out.length ≤ s.cells + (s.pos + 1) + 1; omega⟩
  clear hr1 hr2 hr3 h1 hrd hcc HH1 c1
  have H2 := Lib.hid (dsmall_any B rb bv sv bs _ at' hlen hpos w1 HW1.out.rp HST.out.why HST.out.cells (by simp only; omega))
  clear hs1
  go_wp2_with fail
  refine (H2.out).mono ?_
  rintro r w3 h3
  obtain rfl := h3.1
  have HP := Lib.hid h3
  clear h3
  go_wp2_with fail
  go_end0
  rw [← HAT.out] at HP
  exact DPx.behind HW1.out (DPost.fin HX.out (bind_two fun _ => bind_two fun _ x h => by split at h; cases h; cases h; rfl) ⟨rfl, HP.out.2⟩)

include hlen hpos h hst htk in
set_option maxHeartbeats 1600000 in
set_option maxRecDepth 100000 in
theorem dterm_106 (hc : c.toNat = 106) (hX : OneX bs (bodyD bs s.rs 106 (s.pos + 1)) X) : Calls Tryd.prog 32 #[.pointer (some ⟨rb, 0, none⟩)] w (DPx B w rb bv sv bs X) := by
  have HST := Lib.hid hst
  have HH1 := Lib.hid (callsOk (dtake_any B rb bv sv bs s 1 hlen hpos (by omega) w h hst.why) htk)
  have HX := Lib.hid hX
  have hcc : (byteCells [c])[0]? = some (.int .u8 106) := by unfold byteCells; simp [hc]
  obtain ⟨c0, c1, c2, c3, c4, c5⟩ := Ds.cell h.blk
  obtain ⟨at', hat⟩ : ∃ at', s.pos = at' := ⟨_, rfl⟩
  rw [hat] at c1
  have HAT := Lib.hid hat
  have hso := hst.out
  have hcl := hst.cells
  have hple := (takeD_ok htk).1
  clear hX hc htk h hst hat c0 c2 c3 c4 c5
  go_enter Tryd.func32, Tryd.ntmps32
  go_wp2_with fail
  refine (HH1.out).mono ?_
  rintro r w1 ⟨_, ⟨g, off, cap, rfl, hrd⟩, h1⟩
  obtain ⟨g', off', cap', hv, hr1, hr2, hr3⟩ := hrd.now.at (by omega)
  simp at hv
  obtain ⟨⟨rfl, rfl⟩, rfl⟩ := hv
  have d0 := hr3 0 (by omega)
  rw [hcc, Nat.add_zero] at d0
  have HRD := Lib.hid hrd
  have HW1 := Lib.hid h1
  have hs1 : DSt bs { s with pos := s.pos + 1 } := ⟨HST.out.why, HST.out.cells, by show s.out.length ≤ s.cells + (s.pos + 1) + 1; omega⟩
  clear hr1 hr2 hr3 h1 hrd hcc HH1 c1
  have H2 := Lib.hid (dleaf_made B rb bv sv bs _ 6 0 ⟨#[]⟩ at' w1 HW1.out.rp HST.out.why HST.out.cells (by simp only; omega))
  clear hs1
  go_wp2_with fail
  refine (H2.out).mono ?_
  rintro r w3 h3
  obtain rfl := h3.1
  have HP := Lib.hid h3
  clear h3
  go_wp2_with fail
  go_end0
  rw [← HAT.out] at HP
  exact DPx.behind HW1.out (DPost.fin HX.out (fun _ h => made_two h) ⟨rfl, HP.out.2⟩)

include hlen hpos h hst htk ih hM in
set_option maxHeartbeats 1600000 in
set_option maxRecDepth 100000 in
theorem dterm_104 (hc : c.toNat = 104) (hX : OneX bs (bodyD bs s.rs 104 (s.pos + 1)) X) : Calls Tryd.prog 32 #[.pointer (some ⟨rb, 0, none⟩)] w (DPx B w rb bv sv bs X) := by
  have HST := Lib.hid hst
  have HH1 := Lib.hid (callsOk (dtake_any B rb bv sv bs s 1 hlen hpos (by omega) w h hst.why) htk)
  have HX := Lib.hid hX
  have hcc : (byteCells [c])[0]? = some (.int .u8 104) := by unfold byteCells; simp [hc]
  obtain ⟨c0, c1, c2, c3, c4, c5⟩ := Ds.cell h.blk
  obtain ⟨at', hat⟩ : ∃ at', s.pos = at' := ⟨_, rfl⟩
  rw [hat] at c1
  have HAT := Lib.hid hat
  have hso := hst.out
  have hcl := hst.cells
  have hple := (takeD_ok htk).1
  clear hX hc htk h hst hat c0 c2 c3 c4 c5
  go_enter Tryd.func32, Tryd.ntmps32
  go_wp2_with fail
  refine (HH1.out).mono ?_
  rintro r w1 ⟨_, ⟨g, off, cap, rfl, hrd⟩, h1⟩
  obtain ⟨g', off', cap', hv, hr1, hr2, hr3⟩ := hrd.now.at (by omega)
  simp at hv
  obtain ⟨⟨rfl, rfl⟩, rfl⟩ := hv
  have d0 := hr3 0 (by omega)
  rw [hcc, Nat.add_zero] at d0
  have HRD := Lib.hid hrd
  have HW1 := Lib.hid h1
  have hs1 : DSt bs { s with pos := s.pos + 1 } := ⟨HST.out.why, HST.out.cells, by show s.out.length ≤ s.cells + (s.pos + 1) + 1; omega⟩
  clear hr1 hr2 hr3 h1 hrd hcc HH1 c1
  have H2 := Lib.hid (dtuple_any M bs ih hlen hpos B rb bv sv _ 1 at' (.inl rfl) w1 X HW1.out.rp hs1 (by show bs.length ≤ s.pos + 1 + M; omega) (by have hx := HX.out; rw [body104] at hx; rw [← HAT.out]; exact hx))
  clear hs1
  go_wp2_with fail
  refine (H2.out).mono ?_
  rintro r w3 h3
  obtain rfl := h3.1
  have HP := Lib.hid h3
  clear h3
  go_wp2_with fail
  go_end0
  exact DPx.behind HW1.out HP.out

include hlen hpos h hst htk ih hM in
set_option maxHeartbeats 1600000 in
set_option maxRecDepth 100000 in
theorem dterm_105 (hc : c.toNat = 105) (hX : OneX bs (bodyD bs s.rs 105 (s.pos + 1)) X) : Calls Tryd.prog 32 #[.pointer (some ⟨rb, 0, none⟩)] w (DPx B w rb bv sv bs X) := by
  have HST := Lib.hid hst
  have HH1 := Lib.hid (callsOk (dtake_any B rb bv sv bs s 1 hlen hpos (by omega) w h hst.why) htk)
  have HX := Lib.hid hX
  have hcc : (byteCells [c])[0]? = some (.int .u8 105) := by unfold byteCells; simp [hc]
  obtain ⟨c0, c1, c2, c3, c4, c5⟩ := Ds.cell h.blk
  obtain ⟨at', hat⟩ : ∃ at', s.pos = at' := ⟨_, rfl⟩
  rw [hat] at c1
  have HAT := Lib.hid hat
  have hso := hst.out
  have hcl := hst.cells
  have hple := (takeD_ok htk).1
  clear hX hc htk h hst hat c0 c2 c3 c4 c5
  go_enter Tryd.func32, Tryd.ntmps32
  go_wp2_with fail
  refine (HH1.out).mono ?_
  rintro r w1 ⟨_, ⟨g, off, cap, rfl, hrd⟩, h1⟩
  obtain ⟨g', off', cap', hv, hr1, hr2, hr3⟩ := hrd.now.at (by omega)
  simp at hv
  obtain ⟨⟨rfl, rfl⟩, rfl⟩ := hv
  have d0 := hr3 0 (by omega)
  rw [hcc, Nat.add_zero] at d0
  have HRD := Lib.hid hrd
  have HW1 := Lib.hid h1
  have hs1 : DSt bs { s with pos := s.pos + 1 } := ⟨HST.out.why, HST.out.cells, by show s.out.length ≤ s.cells + (s.pos + 1) + 1; omega⟩
  clear hr1 hr2 hr3 h1 hrd hcc HH1 c1
  have H2 := Lib.hid (dtuple_any M bs ih hlen hpos B rb bv sv _ 4 at' (.inr rfl) w1 X HW1.out.rp hs1 (by show bs.length ≤ s.pos + 1 + M; omega) (by have hx := HX.out; rw [body105] at hx; rw [← HAT.out]; exact hx))
  clear hs1
  go_wp2_with fail
  refine (H2.out).mono ?_
  rintro r w3 h3
  obtain rfl := h3.1
  have HP := Lib.hid h3
  clear h3
  go_wp2_with fail
  go_end0
  exact DPx.behind HW1.out HP.out

include hlen hpos h hst htk ih hM in
set_option maxHeartbeats 1600000 in
set_option maxRecDepth 100000 in
theorem dterm_108 (hc : c.toNat = 108) (hX : OneX bs (bodyD bs s.rs 108 (s.pos + 1)) X) : Calls Tryd.prog 32 #[.pointer (some ⟨rb, 0, none⟩)] w (DPx B w rb bv sv bs X) := by
  have HST := Lib.hid hst
  have HH1 := Lib.hid (callsOk (dtake_any B rb bv sv bs s 1 hlen hpos (by omega) w h hst.why) htk)
  have HX := Lib.hid hX
  have hcc : (byteCells [c])[0]? = some (.int .u8 108) := by unfold byteCells; simp [hc]
  obtain ⟨c0, c1, c2, c3, c4, c5⟩ := Ds.cell h.blk
  obtain ⟨at', hat⟩ : ∃ at', s.pos = at' := ⟨_, rfl⟩
  rw [hat] at c1
  have HAT := Lib.hid hat
  have hso := hst.out
  have hcl := hst.cells
  have hple := (takeD_ok htk).1
  clear hX hc htk h hst hat c0 c2 c3 c4 c5
  go_enter Tryd.func32, Tryd.ntmps32
  go_wp2_with fail
  refine (HH1.out).mono ?_
  rintro r w1 ⟨_, ⟨g, off, cap, rfl, hrd⟩, h1⟩
  obtain ⟨g', off', cap', hv, hr1, hr2, hr3⟩ := hrd.now.at (by omega)
  simp at hv
  obtain ⟨⟨rfl, rfl⟩, rfl⟩ := hv
  have d0 := hr3 0 (by omega)
  rw [hcc, Nat.add_zero] at d0
  have HRD := Lib.hid hrd
  have HW1 := Lib.hid h1
  have hs1 : DSt bs { s with pos := s.pos + 1 } := ⟨HST.out.why, HST.out.cells, by show s.out.length ≤ s.cells + (s.pos + 1) + 1; omega⟩
  clear hr1 hr2 hr3 h1 hrd hcc HH1 c1
  have H2 := Lib.hid (dlist_any M bs ih hlen hpos B rb bv sv _ at' w1 X HW1.out.rp hs1 (by show s.out.length ≤ s.cells + (s.pos + 1); omega) (by show bs.length ≤ s.pos + 1 + M; omega) (by have hx := HX.out; rw [body108] at hx; rw [← HAT.out]; exact hx))
  clear hs1
  go_wp2_with fail
  refine (H2.out).mono ?_
  rintro r w3 h3
  obtain rfl := h3.1
  have HP := Lib.hid h3
  clear h3
  go_wp2_with fail
  go_end0
  exact DPx.behind HW1.out HP.out

include hlen hpos h hst htk in
set_option maxHeartbeats 1600000 in
set_option maxRecDepth 100000 in
theorem dterm_97 (hc : c.toNat = 97) (hX : OneX bs (bodyD bs s.rs 97 (s.pos + 1)) X) : Calls Tryd.prog 32 #[.pointer (some ⟨rb, 0, none⟩)] w (DPx B w rb bv sv bs X) := by
  have HST := Lib.hid hst
  have HH1 := Lib.hid (callsOk (dtake_any B rb bv sv bs s 1 hlen hpos (by omega) w h hst.why) htk)
  have HX := Lib.hid hX
  have hcc : (byteCells [c])[0]? = some (.int .u8 97) := by unfold byteCells; simp [hc]
  obtain ⟨c0, c1, c2, c3, c4, c5⟩ := Ds.cell h.blk
  obtain ⟨at', hat⟩ : ∃ at', s.pos = at' := ⟨_, rfl⟩
  rw [hat] at c1
  have HAT := Lib.hid hat
  have hso := hst.out
  have hcl := hst.cells
  have hple := (takeD_ok htk).1
  clear hX hc htk h hst hat c0 c2 c3 c4 c5
  go_enter Tryd.func32, Tryd.ntmps32
  go_wp2_with fail
  refine (HH1.out).mono ?_
  rintro r w1 ⟨_, ⟨g, off, cap, rfl, hrd⟩, h1⟩
  obtain ⟨g', off', cap', hv, hr1, hr2, hr3⟩ := hrd.now.at (by omega)
  simp at hv
  obtain ⟨⟨rfl, rfl⟩, rfl⟩ := hv
  have d0 := hr3 0 (by omega)
  rw [hcc, Nat.add_zero] at d0
  have HRD := Lib.hid hrd
  have HW1 := Lib.hid h1
  have hs1 : DSt bs { s with pos := s.pos + 1 } := ⟨HST.out.why, HST.out.cells, by show s.out.length ≤ s.cells + (s.pos + 1) + 1; omega⟩
  clear hr1 hr2 hr3 h1 hrd hcc HH1 c1
  cases hn : numD bs (s.pos + 1) 1 with
  | bad e p =>
    have HF : Hid (X = .bad e p) := Lib.hid (by have hx := HX.out; rw [body97, hn] at hx; exact hx)
    have H2 := Lib.hid (callsBad (dnum_any B rb bv sv bs _ 1 hlen hpos (by omega) w1 HW1.out.rp HST.out.why) hn)
    clear hn hs1
    go_wp2_with fail
    refine (H2.out).mono ?_
    rintro r w2 ⟨rfl, hE⟩
    have HE := Lib.hid (DEr.behind HW1.out hE)
    clear hE
    go_wp2_with fail
    go_end0
    exact ⟨rfl, ResP.badI HF.out HE.out⟩
  | ok n =>
    have hnb := num_lt' hn
    have HX2 : Hid (OneX bs (madeD s.rs (s.pos + 1 + 1) s.pos (intC (n : Int))) X) := Lib.hid (by have hx := HX.out; rw [body97, hn] at hx; exact hx)
    have H2 := Lib.hid (callsOk (dnum_any B rb bv sv bs _ 1 hlen hpos (by omega) w1 HW1.out.rp HST.out.why) hn)
    clear hn hs1
    go_wp2_with fail
    refine (H2.out).mono ?_
    rintro r w2 ⟨rfl, h2⟩
    have H3 := Lib.hid (dleaf_made B rb bv sv bs _ 1 (n : Int) ⟨#[]⟩ at' w2 h2.rp HST.out.why HST.out.cells (by simp only; omega))
    have HW2 := Lib.hid (HW1.out.trans h2)
    clear h2
    go_wp2_with fail
    refine (H3.out).mono ?_
    rintro r w3 h3
    obtain rfl := h3.1
    have HP := Lib.hid h3
    clear h3
    go_wp2_with fail
    go_end0
    rw [← HAT.out] at HP
    exact DPx.behind HW2.out (DPost.fin HX2.out (fun _ h => made_two h) ⟨rfl, HP.out.2⟩)

include hlen hpos h hst htk in
set_option maxHeartbeats 1600000 in
set_option maxRecDepth 100000 in
theorem dterm_98 (hc : c.toNat = 98) (hX : OneX bs (bodyD bs s.rs 98 (s.pos + 1)) X) : Calls Tryd.prog 32 #[.pointer (some ⟨rb, 0, none⟩)] w (DPx B w rb bv sv bs X) := by
  have HST := Lib.hid hst
  have HH1 := Lib.hid (callsOk (dtake_any B rb bv sv bs s 1 hlen hpos (by omega) w h hst.why) htk)
  have HX := Lib.hid hX
  have hcc : (byteCells [c])[0]? = some (.int .u8 98) := by unfold byteCells; simp [hc]
  obtain ⟨c0, c1, c2, c3, c4, c5⟩ := Ds.cell h.blk
  obtain ⟨at', hat⟩ : ∃ at', s.pos = at' := ⟨_, rfl⟩
  rw [hat] at c1
  have HAT := Lib.hid hat
  have hso := hst.out
  have hcl := hst.cells
  have hple := (takeD_ok htk).1
  clear hX hc htk h hst hat c0 c2 c3 c4 c5
  go_enter Tryd.func32, Tryd.ntmps32
  go_wp2_with fail
  refine (HH1.out).mono ?_
  rintro r w1 ⟨_, ⟨g, off, cap, rfl, hrd⟩, h1⟩
  obtain ⟨g', off', cap', hv, hr1, hr2, hr3⟩ := hrd.now.at (by omega)
  simp at hv
  obtain ⟨⟨rfl, rfl⟩, rfl⟩ := hv
  have d0 := hr3 0 (by omega)
  rw [hcc, Nat.add_zero] at d0
  have HRD := Lib.hid hrd
  have HW1 := Lib.hid h1
  have hs1 : DSt bs { s with pos := s.pos + 1 } := ⟨HST.out.why, HST.out.cells, by show s.out.length ≤ s.cells + (s.pos + 1) + 1; omega⟩
  clear hr1 hr2 hr3 h1 hrd hcc HH1 c1
  cases hn : numD bs (s.pos + 1) 4 with
  | bad e p =>
    have HF : Hid (X = .bad e p) := Lib.hid (by have hx := HX.out; rw [body98, hn] at hx; exact hx)
    have H2 := Lib.hid (callsBad (dnum_any B rb bv sv bs _ 4 hlen hpos (by omega) w1 HW1.out.rp HST.out.why) hn)
    clear hn hs1
    go_wp2_with fail
    refine (H2.out).mono ?_
    rintro r w2 ⟨rfl, hE⟩
    have HE := Lib.hid (DEr.behind HW1.out hE)
    clear hE
    go_wp2_with fail
    go_end0
    exact ⟨rfl, ResP.badI HF.out HE.out⟩
  | ok n =>
    have hnb := num_lt' hn
    have HX2 : Hid (OneX bs (madeD s.rs (s.pos + 1 + 4) s.pos (intC (sgn4 n))) X) := Lib.hid (by have hx := HX.out; rw [body98, hn] at hx; exact hx)
    have H2 := Lib.hid (callsOk (dnum_any B rb bv sv bs _ 4 hlen hpos (by omega) w1 HW1.out.rp HST.out.why) hn)
    have hsg := sgn_wrap n (by omega)
    have hsb := sgn_b n (by omega)
    obtain ⟨z, hz⟩ : ∃ z, sgn4 n = z := ⟨_, rfl⟩
    rw [hz] at hsg hsb HX2
    have hsq : IntKind.i64.wrap z = z := by rw [IntKind.wrap_i64]; omega
    clear hz
    clear hn hs1
    go_wp2_with fail
    refine (H2.out).mono ?_
    rintro r w2 ⟨rfl, h2⟩
    have H3 := Lib.hid (dleaf_made B rb bv sv bs _ 1 z ⟨#[]⟩ at' w2 h2.rp HST.out.why HST.out.cells (by simp only; omega))
    have HW2 := Lib.hid (HW1.out.trans h2)
    clear h2
    go_wp2_with fail
    refine (H3.out).mono ?_
    rintro r w3 h3
    obtain rfl := h3.1
    have HP := Lib.hid h3
    clear h3
    go_wp2_with fail
    go_end0
    rw [← HAT.out] at HP
    exact DPx.behind HW2.out (DPost.fin HX2.out (fun _ h => made_two h) ⟨rfl, HP.out.2⟩)

include hlen hpos h hst htk in
set_option maxHeartbeats 1600000 in
set_option maxRecDepth 100000 in
theorem dterm_118 (hc : c.toNat = 118) (hX : OneX bs (bodyD bs s.rs 118 (s.pos + 1)) X) : Calls Tryd.prog 32 #[.pointer (some ⟨rb, 0, none⟩)] w (DPx B w rb bv sv bs X) := by
  have HST := Lib.hid hst
  have HH1 := Lib.hid (callsOk (dtake_any B rb bv sv bs s 1 hlen hpos (by omega) w h hst.why) htk)
  have HX := Lib.hid hX
  have hcc : (byteCells [c])[0]? = some (.int .u8 118) := by unfold byteCells; simp [hc]
  obtain ⟨c0, c1, c2, c3, c4, c5⟩ := Ds.cell h.blk
  obtain ⟨at', hat⟩ : ∃ at', s.pos = at' := ⟨_, rfl⟩
  rw [hat] at c1
  have HAT := Lib.hid hat
  have hso := hst.out
  have hcl := hst.cells
  have hple := (takeD_ok htk).1
  clear hX hc htk h hst hat c0 c2 c3 c4 c5
  go_enter Tryd.func32, Tryd.ntmps32
  go_wp2_with fail
  refine (HH1.out).mono ?_
  rintro r w1 ⟨_, ⟨g, off, cap, rfl, hrd⟩, h1⟩
  obtain ⟨g', off', cap', hv, hr1, hr2, hr3⟩ := hrd.now.at (by omega)
  simp at hv
  obtain ⟨⟨rfl, rfl⟩, rfl⟩ := hv
  have d0 := hr3 0 (by omega)
  rw [hcc, Nat.add_zero] at d0
  have HRD := Lib.hid hrd
  have HW1 := Lib.hid h1
  have hs1 : DSt bs { s with pos := s.pos + 1 } := ⟨HST.out.why, HST.out.cells, by show s.out.length ≤ s.cells + (s.pos + 1) + 1; omega⟩
  clear hr1 hr2 hr3 h1 hrd hcc HH1 c1
  cases hn : textD bs (s.pos + 1) 118 s.pos with
  | bad e p =>
    have HF : Hid (X = .bad e p) := Lib.hid (by have hx := HX.out; rw [body118, show s.rs.pos = s.pos from rfl, hn] at hx; exact hx)
    rw [HAT.out] at hn
    have H2 := Lib.hid (callsBad (dtext_any B rb bv sv bs _ 118 at' (by omega) hlen hpos w1 HW1.out.rp HST.out.why) (by rw [HAT.out]; exact hn))
    clear hn hs1
    go_wp2_with fail
    refine (H2.out).mono ?_
    rintro r w2 ⟨⟨str, rfl⟩, hE⟩
    have hE2 := DEr.behind HW1.out hE
    have HE := Lib.hid hE2
    obtain ⟨c4, q1, q2⟩ := hE2.why0
    clear hE hE2
    go_wp2_with fail
    go_end0
    exact ⟨rfl, ResP.badI HF.out HE.out⟩
  | ok x =>
    have HX2 : Hid (OneX bs (madeD s.rs x.2 s.pos ⟨2, 0, x.1⟩) X) := Lib.hid (by have hx := HX.out; rw [body118, show s.rs.pos = s.pos from rfl, hn] at hx; exact hx)
    rw [HAT.out] at hn
    have H2 := Lib.hid (callsOk (dtext_any B rb bv sv bs _ 118 at' (by omega) hlen hpos w1 HW1.out.rp HST.out.why) (by rw [HAT.out]; exact hn))
    clear hn hs1
    go_wp2_with fail
    refine (H2.out).mono ?_
    rintro r w2 ⟨rfl, h2⟩
    have H3 := Lib.hid (dleaf_made B rb bv sv bs _ 2 0 x.1 at' w2 h2.rp HST.out.why HST.out.cells (by simp only; omega))
    have c4 := (Ds.cell h2.rp.blk).2.2.2.2.1
    simp only at c4
    rw [HST.out.why] at c4
    have HW2 := Lib.hid (HW1.out.trans h2)
    clear h2
    go_wp2_with fail
    refine (H3.out).mono ?_
    rintro r w3 h3
    obtain rfl := h3.1
    have HP := Lib.hid h3
    clear h3
    go_wp2_with fail
    go_end0
    rw [← HAT.out] at HP
    exact DPx.behind HW2.out (DPost.fin HX2.out (fun _ h => made_two h) ⟨rfl, HP.out.2⟩)

include hlen hpos h hst htk in
set_option maxHeartbeats 1600000 in
set_option maxRecDepth 100000 in
theorem dterm_119 (hc : c.toNat = 119) (hX : OneX bs (bodyD bs s.rs 119 (s.pos + 1)) X) : Calls Tryd.prog 32 #[.pointer (some ⟨rb, 0, none⟩)] w (DPx B w rb bv sv bs X) := by
  have HST := Lib.hid hst
  have HH1 := Lib.hid (callsOk (dtake_any B rb bv sv bs s 1 hlen hpos (by omega) w h hst.why) htk)
  have HX := Lib.hid hX
  have hcc : (byteCells [c])[0]? = some (.int .u8 119) := by unfold byteCells; simp [hc]
  obtain ⟨c0, c1, c2, c3, c4, c5⟩ := Ds.cell h.blk
  obtain ⟨at', hat⟩ : ∃ at', s.pos = at' := ⟨_, rfl⟩
  rw [hat] at c1
  have HAT := Lib.hid hat
  have hso := hst.out
  have hcl := hst.cells
  have hple := (takeD_ok htk).1
  clear hX hc htk h hst hat c0 c2 c3 c4 c5
  go_enter Tryd.func32, Tryd.ntmps32
  go_wp2_with fail
  refine (HH1.out).mono ?_
  rintro r w1 ⟨_, ⟨g, off, cap, rfl, hrd⟩, h1⟩
  obtain ⟨g', off', cap', hv, hr1, hr2, hr3⟩ := hrd.now.at (by omega)
  simp at hv
  obtain ⟨⟨rfl, rfl⟩, rfl⟩ := hv
  have d0 := hr3 0 (by omega)
  rw [hcc, Nat.add_zero] at d0
  have HRD := Lib.hid hrd
  have HW1 := Lib.hid h1
  have hs1 : DSt bs { s with pos := s.pos + 1 } := ⟨HST.out.why, HST.out.cells, by show s.out.length ≤ s.cells + (s.pos + 1) + 1; omega⟩
  clear hr1 hr2 hr3 h1 hrd hcc HH1 c1
  cases hn : textD bs (s.pos + 1) 119 s.pos with
  | bad e p =>
    have HF : Hid (X = .bad e p) := Lib.hid (by have hx := HX.out; rw [body119, show s.rs.pos = s.pos from rfl, hn] at hx; exact hx)
    rw [HAT.out] at hn
    have H2 := Lib.hid (callsBad (dtext_any B rb bv sv bs _ 119 at' (by omega) hlen hpos w1 HW1.out.rp HST.out.why) (by rw [HAT.out]; exact hn))
    clear hn hs1
    go_wp2_with fail
    refine (H2.out).mono ?_
    rintro r w2 ⟨⟨str, rfl⟩, hE⟩
    have hE2 := DEr.behind HW1.out hE
    have HE := Lib.hid hE2
    obtain ⟨c4, q1, q2⟩ := hE2.why0
    clear hE hE2
    go_wp2_with fail
    go_end0
    exact ⟨rfl, ResP.badI HF.out HE.out⟩
  | ok x =>
    have HX2 : Hid (OneX bs (madeD s.rs x.2 s.pos ⟨2, 0, x.1⟩) X) := Lib.hid (by have hx := HX.out; rw [body119, show s.rs.pos = s.pos from rfl, hn] at hx; exact hx)
    rw [HAT.out] at hn
    have H2 := Lib.hid (callsOk (dtext_any B rb bv sv bs _ 119 at' (by omega) hlen hpos w1 HW1.out.rp HST.out.why) (by rw [HAT.out]; exact hn))
    clear hn hs1
    go_wp2_with fail
    refine (H2.out).mono ?_
    rintro r w2 ⟨rfl, h2⟩
    have H3 := Lib.hid (dleaf_made B rb bv sv bs _ 2 0 x.1 at' w2 h2.rp HST.out.why HST.out.cells (by simp only; omega))
    have c4 := (Ds.cell h2.rp.blk).2.2.2.2.1
    simp only at c4
    rw [HST.out.why] at c4
    have HW2 := Lib.hid (HW1.out.trans h2)
    clear h2
    go_wp2_with fail
    refine (H3.out).mono ?_
    rintro r w3 h3
    obtain rfl := h3.1
    have HP := Lib.hid h3
    clear h3
    go_wp2_with fail
    go_end0
    rw [← HAT.out] at HP
    exact DPx.behind HW2.out (DPost.fin HX2.out (fun _ h => made_two h) ⟨rfl, HP.out.2⟩)

include hlen hpos h hst htk in
set_option maxHeartbeats 1600000 in
set_option maxRecDepth 100000 in
theorem dterm_other (y : Nat) (hc : c.toNat = y) (hX : OneX bs (bodyD bs s.rs y (s.pos + 1)) X) (hy : y ≠ 97 ∧ y ≠ 98 ∧ y ≠ 110 ∧ y ≠ 118 ∧ y ≠ 119 ∧ y ≠ 104 ∧ y ≠ 105 ∧ y ≠ 106 ∧ y ≠ 107 ∧ y ≠ 108 ∧ y ≠ 109 ∧ y ≠ 88 ∧ y ≠ 90) : Calls Tryd.prog 32 #[.pointer (some ⟨rb, 0, none⟩)] w (DPx B w rb bv sv bs X) := by
  have HST := Lib.hid hst
  have HH1 := Lib.hid (callsOk (dtake_any B rb bv sv bs s 1 hlen hpos (by omega) w h hst.why) htk)
  obtain ⟨n1, n2, n3, n4, n5, n6, n7, n8, n9, n10, n11, n12, n13⟩ := hy
  have HX : Hid (X = .bad 61 s.pos) := Lib.hid (by
    have hb : bodyD bs s.rs y (s.pos + 1) = .bad 61 s.pos := by
      unfold bodyD
      rw [if_neg n1, if_neg n2, if_neg n3, if_neg (by omega), if_neg n6, if_neg n7, if_neg n8, if_neg n9, if_neg n10, if_neg n11, if_neg n12, if_neg n13]
      rfl
    rw [hb] at hX
    exact hX)
  have q1 : ((y : Int) == 97) = false := by simp; omega
  have q2 : ((y : Int) == 98) = false := by simp; omega
  have q3 : ((y : Int) == 110) = false := by simp; omega
  have q4 : ((y : Int) == 118) = false := by simp; omega
  have q5 : ((y : Int) == 119) = false := by simp; omega
  have q6 : ((y : Int) == 104) = false := by simp; omega
  have q7 : ((y : Int) == 105) = false := by simp; omega
  have q8 : ((y : Int) == 106) = false := by simp; omega
  have q9 : ((y : Int) == 107) = false := by simp; omega
  have q10 : ((y : Int) == 108) = false := by simp; omega
  have q11 : ((y : Int) == 109) = false := by simp; omega
  have q12 : ((y : Int) == 88) = false := by simp; omega
  have q13 : ((y : Int) == 90) = false := by simp; omega
  have hcc : (byteCells [c])[0]? = some (.int .u8 y) := by unfold byteCells; simp [hc]
  obtain ⟨c0, c1, c2, c3, c4, c5⟩ := Ds.cell h.blk
  obtain ⟨at', hat⟩ : ∃ at', s.pos = at' := ⟨_, rfl⟩
  rw [hat] at c1
  have HAT := Lib.hid hat
  have hso := hst.out
  have hcl := hst.cells
  have hple := (takeD_ok htk).1
  clear n1 n2 n3 n4 n5 n6 n7 n8 n9 n10 n11 n12 n13 hX hc htk h hst hat c0 c2 c3 c4 c5
  go_enter Tryd.func32, Tryd.ntmps32
  go_wp2_with fail
  refine (HH1.out).mono ?_
  rintro r w1 ⟨_, ⟨g, off, cap, rfl, hrd⟩, h1⟩
  obtain ⟨g', off', cap', hv, hr1, hr2, hr3⟩ := hrd.now.at (by omega)
  simp at hv
  obtain ⟨⟨rfl, rfl⟩, rfl⟩ := hv
  have d0 := hr3 0 (by omega)
  rw [hcc, Nat.add_zero] at d0
  have HRD := Lib.hid hrd
  have HW1 := Lib.hid h1
  have hs1 : DSt bs { s with pos := s.pos + 1 } := ⟨HST.out.why, HST.out.cells, by show s.out.length ≤ s.cells + (s.pos + 1) + 1; omega⟩
  clear hr1 hr2 hr3 h1 hrd hcc HH1 c1
  have H2 := Lib.hid (dfail_any B rb bv sv bs _ 61 at' w1 HW1.out.rp)
  clear hs1
  go_wp2_with fail
  refine (H2.out).mono ?_
  rintro r w2 ⟨rfl, h2⟩
  have HW2 := Lib.hid h2
  clear h2
  go_wp2_with fail
  go_end0
  rw [← HAT.out] at HW2
  exact ⟨rfl, ResP.badI HX.out (DEr.behind HW1.out (.fail HW2.out HST.out.why (by omega)))⟩
end

set_option maxRecDepth 100000 in
theorem dterm_short (bs : List UInt8) (hlen : bs.length ≤ 1048576) (hpos : 1 ≤ bs.length) (B rb : Nat) (bv sv : Value) (s : Ds) (w : World) (X : Res Rs) (h : Dp B w rb bv sv bs s) (hst : DSt bs s) (htk : takeD bs s.pos 1 = .bad 62 bs.length) (hX : X = .bad 62 bs.length) :
    Calls Tryd.prog 32 #[.pointer (some ⟨rb, 0, none⟩)] w (DPx B w rb bv sv bs X) := by
  have HH1 := Lib.hid (callsBad (dtake_any B rb bv sv bs s 1 hlen hpos (by omega) w h hst.why) htk)
  have HX := Lib.hid hX
  obtain ⟨c0, c1, c2, c3, c4, c5⟩ := Ds.cell h.blk
  obtain ⟨at', hat⟩ : ∃ at', s.pos = at' := ⟨_, rfl⟩
  rw [hat] at c1
  clear hX htk h hst hat c0 c2 c3 c4 c5
  go_enter Tryd.func32, Tryd.ntmps32
  go_wp2_with fail
  refine (HH1.out).mono ?_
  rintro r w1 ⟨rfl, hE⟩
  have HE := Lib.hid hE
  clear hE
  go_wp2_with fail
  refine bodyPost_ret (results_none rfl _ _ _) rfl ⟨rfl, ResP.badI HX.out HE.out⟩

theorem dterm_all (bs : List UInt8) (hlen : bs.length ≤ 1048576) (hpos : 1 ≤ bs.length) : ∀ M, DT bs M
  | 0 => fun B rb bv sv s w X h _ hM _ => by have := h.le; omega
  | M + 1 => fun B rb bv sv s w X h hst hM hX => by
    have ih := dterm_all bs hlen hpos M
    have h1 := one_split hX
    by_cases hn : s.pos + 1 ≤ bs.length
    · have htk : takeD bs s.pos 1 = .ok (rest bs s.pos 1) := by unfold takeD; rw [if_neg (by omega)]
      obtain ⟨c, hc⟩ : ∃ c, rest bs s.pos 1 = [c] := by
        have := rest_len hn
        match rest bs s.pos 1, this with
        | [c], _ => exact ⟨c, rfl⟩
      rw [hc] at htk
      have hnum : numD bs s.pos 1 = .ok c.toNat := by unfold numD; rw [if_neg (by omega), hc]; simp [beN]
      have h2 : oneD bs s.rs = bodyD bs s.rs c.toNat (s.pos + 1) := by
        unfold oneD tagD
        rw [show s.rs.pos = s.pos from rfl, hnum]
        rfl
      rw [h2] at h1
      obtain ⟨y, hy⟩ : ∃ y, c.toNat = y := ⟨_, rfl⟩
      rw [hy] at h1
      by_cases t97 : y = 97
      · subst t97
        exact dterm_97 bs hlen hpos B rb bv sv s c w X h hst htk hy h1
      by_cases t98 : y = 98
      · subst t98
        exact dterm_98 bs hlen hpos B rb bv sv s c w X h hst htk hy h1
      by_cases t110 : y = 110
      · subst t110
        exact dterm_110 bs hlen hpos B rb bv sv s c w X h hst htk hy h1
      by_cases t118 : y = 118
      · subst t118
        exact dterm_118 bs hlen hpos B rb bv sv s c w X h hst htk hy h1
      by_cases t119 : y = 119
      · subst t119
        exact dterm_119 bs hlen hpos B rb bv sv s c w X h hst htk hy h1
      by_cases t104 : y = 104
      · subst t104
        exact dterm_104 M bs ih hlen hpos B rb bv sv s c w X h hst hM htk hy h1
      by_cases t105 : y = 105
      · subst t105
        exact dterm_105 M bs ih hlen hpos B rb bv sv s c w X h hst hM htk hy h1
      by_cases t106 : y = 106
      · subst t106
        exact dterm_106 bs hlen hpos B rb bv sv s c w X h hst htk hy h1
      by_cases t107 : y = 107
      · subst t107
        exact dterm_107 bs hlen hpos B rb bv sv s c w X h hst htk hy h1
      by_cases t108 : y = 108
      · subst t108
        exact dterm_108 M bs ih hlen hpos B rb bv sv s c w X h hst hM htk hy h1
      by_cases t109 : y = 109
      · subst t109
        exact dterm_109 bs hlen hpos B rb bv sv s c w X h hst htk hy h1
      by_cases t88 : y = 88
      · subst t88
        exact dterm_88 bs hlen hpos B rb bv sv s c w X h hst htk hy h1
      by_cases t90 : y = 90
      · subst t90
        exact dterm_90 bs hlen hpos B rb bv sv s c w X h hst htk hy h1
      exact dterm_other bs hlen hpos B rb bv sv s c w X h hst htk y hy h1 ⟨t97, t98, t110, t118, t119, t104, t105, t106, t107, t108, t109, t88, t90⟩
    · have htk : takeD bs s.pos 1 = .bad 62 bs.length := by unfold takeD; rw [if_pos (by omega)]
      have hnum : numD bs s.pos 1 = .bad 62 bs.length := by unfold numD; rw [if_pos (by omega)]
      have h2 : oneD bs s.rs = .bad 62 bs.length := by
        unfold oneD tagD
        rw [show s.rs.pos = s.pos from rfl, hnum]
        rfl
      rw [h2] at h1
      exact dterm_short bs hlen hpos B rb bv sv s w X h hst htk h1
end Go.Proofs.YtkhjdcnlpablkaaDoor

/-! The document's Decode. -/
namespace Go.Proofs.YtkhjdcnlpablkaaDoor
open Go.RowKit
open Go.Lib (byteCells)

set_option maxHeartbeats 3200000 in
set_option maxRecDepth 100000 in
theorem RDecode_any (bs : List UInt8) (v : Value) (w : World) (hrd : Rd w 1 v bs.length (byteCells bs)) :
    Calls Tryd.prog 11 #[v] w fun r w' => DecP w (decD bs) r w' ∧ Below w.heap.size w w' := by
  obtain ⟨ao, cap, rfl, hcap, hmax⟩ := hrd.shape
  unfold maxLen at hmax
  obtain ⟨X, hX⟩ : ∃ X, decD bs = X := ⟨_, rfl⟩
  rw [hX]
  have HX := Lib.hid (show X = decD bs from hX.symm)
  have HRD := Lib.hid hrd
  clear hX
  obtain ⟨n, hn⟩ : ∃ n, bs.length = n := ⟨_, rfl⟩
  rw [hn] at hrd hcap ⊢
  have HN := Lib.hid hn
  clear hn
  by_cases hbig : 1048576 < n
  · have HF : Hid (X = .bad 4 0) := Lib.hid (by rw [HX.out]; exact if_pos (by rw [HN.out]; exact hbig))
    have t1 : decide (1048576 < (n : Int)) = true := by simp; omega
    have t2 : decide (1048576 < n) = true := by simp; omega
    clear hrd hbig
    go_enter Tryd.func11, Tryd.ntmps11
    go_wp2_with fail
    go_ret3
    exact ⟨ResP.badI HF.out rfl, Below.refl _ _⟩
  · have t1 : decide (1048576 < (n : Int)) = false := by simp; omega
    have t2 : decide (1048576 < n) = false := by simp; omega
    by_cases hz : n = 0
    · subst hz
      have HF : Hid (X = .bad 60 0) := Lib.hid (by rw [HX.out]; unfold decD; rw [if_neg (by rw [HN.out]; omega), if_pos (.inl HN.out)])
      clear hrd hbig
      go_enter Tryd.func11, Tryd.ntmps11
      go_wp2_with fail
      go_ret3
      exact ⟨ResP.badI HF.out rfl, Below.refl _ _⟩
    · obtain ⟨b, bt, rfl⟩ : ∃ b bt, bs = b :: bt := by
        cases bs with
        | nil => exact absurd HN.out.symm hz
        | cons b bt => exact ⟨b, bt, rfl⟩
      obtain ⟨g, off, cap', hv, _, _, hjunk⟩ := hrd.at (by omega)
      clear hjunk
      simp at hv
      obtain ⟨rfl, rfl⟩ := hv
      have hb0 := cells_byte hrd (k := 0) (c := b) rfl HN.out
      rw [Nat.add_zero] at hb0
      obtain ⟨y, hy⟩ : ∃ y, b.toNat = y := ⟨_, rfl⟩
      rw [hy] at hb0
      have q1 : ((n : Int) == 0) = false := by simp; omega
      have q2 : (n == 0) = false := by simp; omega
      have hn0 : 0 < n := by omega
      clear hrd
      by_cases hb : y = 131
      · subst hb
        obtain ⟨rd, hrd⟩ := Runs.total (b :: bt) 1 false ⟨1, 0, []⟩ (by show 1 ≤ _; rw [HN.out]; omega)
        have HF : Hid (X = finD n rd) := Lib.hid (by
          obtain ⟨r2, h2, _⟩ := kids_total (b :: bt) ((b :: bt).length + 1) 1 false ⟨1, 0, []⟩ (by omega) (by show 1 ≤ _; rw [HN.out]; omega)
          have := Runs.unique hrd ⟨_, h2⟩
          subst this
          rw [HX.out]; unfold decD
          rw [if_neg (by rw [HN.out]; omega), if_neg, h2]
          · rw [HN.out]
            cases rd <;> rfl
          · rw [HN.out]
            rintro (e | e)
            · omega
            · exact e (by simp; exact UInt8.toNat_inj.1 hy))
        have hin : RdU w.heap.size w 1 (.slice (some ⟨g, off, none⟩) n cap) n (byteCells (b :: bt)) := RdU.of (by have := HRD.out; rw [HN.out] at this; exact this) (Nat.le_refl _)
        have hbel : Below w.heap.size w (w.alloc (.cells #[.slice (some ⟨g, off, none⟩) n cap, .int .i64 1, .slice none 0 0, .int .i64 0, .int .i64 0, .int .i64 0] 64)) := (Below.refl _ _).alloc (Nat.le_refl _) _
        have hd : Dp w.heap.size (w.alloc (.cells #[.slice (some ⟨g, off, none⟩) n cap, .int .i64 1, .slice none 0 0, .int .i64 0, .int .i64 0, .int .i64 0] 64)) w.heap.size (.slice (some ⟨g, off, none⟩) n cap) (.slice none 0 0) (b :: bt) ⟨1, 0, [], 0, 0⟩ :=
          ⟨heap_alloc_new w _, Sl.nil _ _ _, by rw [HN.out]; exact hin.step hbel, Nat.le_refl _, (fun k hk => by cases hk), by show 1 ≤ _; rw [HN.out]; omega⟩
        have H32 := Lib.hid (dterm_all (b :: bt) (by rw [HN.out]; omega) (by rw [HN.out]; omega) ((b :: bt).length + 1) w.heap.size w.heap.size _ _ _ _ rd hd ⟨rfl, by show 0 ≤ 1024; omega, by show 0 ≤ _; omega⟩ (by show _ < 1 + _; omega) hrd)
        have HD := Lib.hid hd
        have HBEL := Lib.hid hbel
        clear hrd hbig hz hin hbel hd
        go_enter Tryd.func11, Tryd.ntmps11
        go_wp2_with fail
        refine (H32.out).mono ?_
        rintro r w2 ⟨rfl, h2⟩
        cases rd with
        | bad e p =>
          have HFB : Hid (X = .bad e p) := Lib.hid HF.out
          have hE : DEr _ _ _ _ _ _ e p w2 := h2
          obtain ⟨c4, z1, z2⟩ := hE.why0
          have hbe2 : Below w.heap.size w w2 := by
            obtain ⟨sv2, s2, k1, _⟩ := hE
            exact HBEL.out.trans (k1.bel HD.out)
          obtain ⟨sv2, s2, k1, k2, k3, _⟩ := hE
          have c5 := (Ds.cell k1.rp.blk).2.2.2.2.2
          rw [k3] at c5
          have HBE := Lib.hid hbe2
          clear h2 k1 k2 k3 hbe2
          go_wp2_with fail
          go_quiet (fail)
          go_wp2_with fail
          go_ret3
          exact ⟨ResP.badI HFB.out rfl, bel_drewN HBE.out _⟩
        | ok x =>
          obtain ⟨sv2, s2, k1, k2, k3⟩ := h2
          have hbe2 : Below w.heap.size w w2 := HBEL.out.trans (k1.bel HD.out)
          obtain ⟨c0, c1, c2, c3, c4, c5⟩ := Ds.cell k1.rp.blk
          rw [k2] at c4
          obtain ⟨P, hP⟩ : ∃ P, s2.pos = P := ⟨_, rfl⟩
          rw [hP] at c1
          have HBE := Lib.hid hbe2
          have HF2 : Hid (X = if P < n then .bad 63 P else .ok s2.out) := Lib.hid (by
            have e1 : x.pos = P := by rw [← hP]; exact (congrArg Rs.pos k3).symm
            have e2 : x.out = s2.out := (congrArg Rs.out k3).symm
            rw [HF.out]
            unfold finD
            simp only [e1, e2])
          by_cases hmore : P < n
          · have HFB : Hid (X = .bad 63 P) := Lib.hid (by rw [HF2.out, if_pos hmore])
            have z1 : decide ((P : Int) < (n : Int)) = true := decide_eq_true (by omega)
            have H33 := Lib.hid (dfail_any w.heap.size w.heap.size _ sv2 (b :: bt) s2 63 P w2 k1.rp)
            have HK2 := Lib.hid k2
            have HRP := Lib.hid k1.rp
            clear k1 k2 k3 hbe2 c0 c2 c3 c5 hP
            go_wp2_with fail
            refine (H33.out).mono ?_
            rintro r w3 ⟨rfl, h3⟩
            have hbe3 := HBE.out.trans (h3.bel HRP.out)
            obtain ⟨_, _, _, _, f4, f5⟩ := Ds.cell h3.rp.blk
            rw [Ds.fail_zero HK2.out] at f4 f5
            simp only at f4 f5
            have HBE3 := Lib.hid hbe3
            clear h3 hbe3 c4 c1
            go_wp2_with fail
            go_quiet (fail)
            go_wp2_with fail
            go_ret3
            exact ⟨ResP.badI HFB.out rfl, bel_drewN HBE3.out _⟩
          · have HFB : Hid (X = .ok s2.out) := Lib.hid (by rw [HF2.out, if_neg hmore])
            have z1 : decide ((P : Int) < (n : Int)) = false := decide_eq_false (by omega)
            have HSL := Lib.hid k1.rp.sl
            have HOW := Lib.hid k1.rp.own
            obtain ⟨ao2, cap2, rfl, _, _⟩ := k1.rp.sl.shape
            clear k1 k2 k3 hbe2 c0 c3 c5 hP
            go_wp2_with fail
            go_ret3
            exact ⟨ResP.okI HFB.out ⟨_, rfl, HSL.out, HOW.out⟩, HBE.out⟩
      · have HF : Hid (X = .bad 60 0) := Lib.hid (by
          rw [HX.out]; unfold decD
          rw [if_neg (by rw [HN.out]; omega), if_pos (.inr (fun e => hb (by simp at e; rw [← hy, e]; rfl)))])
        have q3 : ((y : Int) != 131) = true := by simp; omega
        have q4 : (y != 131) = true := by simp; omega
        clear hbig hz hb
        go_enter Tryd.func11, Tryd.ntmps11
        go_wp2_with fail
        go_ret3
        exact ⟨ResP.badI HF.out rfl, Below.refl _ _⟩
end Go.Proofs.YtkhjdcnlpablkaaDoor
