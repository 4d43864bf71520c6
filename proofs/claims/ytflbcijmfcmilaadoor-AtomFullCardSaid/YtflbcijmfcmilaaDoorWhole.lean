/- 'whole': the law's loop over the table's atoms, both tables alike. -/
import Derived.Test.YtflbcijmfcmilaaDoorRng
import Derived.Test.YtflbcijmfcmilaaDoorAwake
namespace Go.Proofs.YtflbcijmfcmilaaDoor
open Go.RowKit Go.Shelf
attribute [local go_sem] Oper.semAt_some

/-- Texts as cells. -/
def strs (l : List ByteArray) : List Value := l.map fun x => .string x
theorem strs_at {l : List ByteArray} {k : Nat} {x : ByteArray} (h : l[k]? = some x) : (strs l)[k]? = some (.string x) := by simp [strs, h]
theorem strs_len (l : List ByteArray) : (strs l).length = l.length := by simp [strs]

theorem seq_not_nilIn (w : World) (d f : Nat) (c : Array Value) : (Op.equalIn (d + 1) 78 (.func (.func f) #[] c) .nilFunc).run Tryd.prog w = .ok false w := by
  simp [Op.equalIn, run_underlying Tryd.underlying78]

theorem seq_not_nil (w : World) (f : Nat) (c : Array Value) : (binOp .eql 78 (.func (.func f) #[] c) .nilFunc).run Tryd.prog w = .ok (.bool false) w := by
  simp only [binOp]
  simp [Op.equal, Op.maxDepth, seq_not_nilIn w 9999 f c]

theorem len_nil (w : World) : Calls Tryd.prog 27 #[.pointer none] w fun e w' => e = .returned (.int .i64 0) ∧ w' = w := by
  go_enter Tryd.func27, Tryd.ntmps27
  go_wp2
  go_ret
  exact ⟨rfl, rfl⟩

theorem len_some (p : Nat) (ao : Option Addr) (n cap : Nat) (w : World) (h : w.cell? ⟨p, 0, none⟩ = some (.slice ao n cap)) : Calls Tryd.prog 27 #[.pointer (some ⟨p, 0, none⟩)] w fun e w' => e = .returned (.int .i64 n) ∧ w' = w := by
  go_enter Tryd.func27, Tryd.ntmps27
  go_wp2
  go_ret
  exact ⟨rfl, rfl⟩

theorem All_any (q : Option Addr) (w : World) : Calls Tryd.prog 52 #[.pointer q] w fun e w' => e = .returned (.func (.func 64) #[] #[.pointer (some ⟨w.heap.size, 0, none⟩)]) ∧ w' = w.alloc (.cells #[.pointer q] 37) := by
  go_enter Tryd.func52, Tryd.ntmps52
  go_wp2
  go_ret
  exact ⟨rfl, rfl⟩

theorem kpl_b {b : Nat} {w : World} (hb : b < w.heap.size) (W : World) (l : Nat) (o o' : Obj) (hl : w.heap.size ≤ l) (h : W.heap[l]? = some o) (hc : o.isCells = false) : KpL b W (W.putObj l o') := by
  refine ⟨by simp, fun k c t fr hk _ _ => World.putObj_heap_other (fun e => ?_), fun k hk => .inl ?_⟩
  · subst e; rw [h] at hk; cases hk; simp [Obj.isCells] at hc
  · have : rowOf (W.putObj l o') b = rowOf W b := by
      unfold rowOf
      rw [World.cell?_of_block (w := W) (a := ⟨b, 0, none⟩) (World.putObj_heap_other (by show b ≠ l; omega))]
    rw [← this]; exact hk

set_option maxRecDepth 100000 in
/-- A nil table's All: at once at its end. -/
theorem nil_seq (F : Fence) (h64 : F.fn 64) (hro : F.round = none) (n Bn Bl B0 : Nat) (w : World) (hBn : w.heap[Bn]? = some (.cells #[.pointer none] 37 (0, 0))) :
    SeqO F n Tryd.prog 64 #[] #[.pointer (some ⟨Bn, 0, none⟩)] (fun x : ByteArray => #[Value.string x]) (KpL Bl) [] B0 w := fun l J Jx W hW _ hJ _ _ h0 => by
  have cn := blk_cell ((hW.block Bn (blk_lt hBn)).trans hBn) 0
  simp at cn
  refine callsIn_of_wp Tryd.func64 rfl h64 ?_ hro
  simp only [Tryd.ntmps64, List.size_toArray, List.length_cons, List.length_nil, Nat.reduceAdd, Nat.reduceSub, Array.replicate_succ, Array.replicate_zero, List.push_toArray, List.append_toArray, List.nil_append, List.cons_append]
  gi_wp2
  refine bodyPost_ret (results_none rfl _ _ _) rfl ?_
  exact ⟨⟨_, rfl⟩, .inl h0⟩

theorem take_pre {ms : List ByteArray} {k : Nat} {x : ByteArray} (h : ms[k]? = some x) : ms.take k ++ [x] <+: ms := by
  refine ⟨ms.drop (k + 1), ?_⟩
  rw [← Option.toList_some (a := x), ← h, ← List.take_add_one]
  exact List.take_append_drop _ _

set_option maxRecDepth 100000 in
set_option maxHeartbeats 1600000 in
/-- A table's All: its atoms, one after another. -/
theorem tab_seq (F : Fence) (hw : Hid (F = Fence.wide)) (h64 : F.fn 64) (hro : F.round = none) (n Bc Bl B0 p : Nat) (v m : Value) (ms : List ByteArray) (hms : ms.length ≤ 1000000) (w : World)
    (hBc : w.heap[Bc]? = some (.cells #[.pointer (some ⟨p, 0, none⟩)] 37 (0, 0))) (hp : w.heap[p]? = some (.cells #[v, m] 75 (0, 0))) (hs : Sl w 9 1 v ms.length (strs ms))
    (hBl : w.heap[Bl]? = some (.cells #[.int .i64 0] 3 (0, 0))) (hd : ∀ k, v.ownBlock = some k → k ≠ Bl) :
    SeqO F n Tryd.prog 64 #[] #[.pointer (some ⟨Bc, 0, none⟩)] (fun x : ByteArray => #[Value.string x]) (KpL Bl) ms B0 w := fun l J Jx W hW hB0 hJ hJx hY h0 => by
  have cn := blk_cell ((hW.block Bc (blk_lt hBc)).trans hBc) 0
  have cp := blk_cell ((hW.block p (blk_lt hp)).trans hp) 0
  simp at cn cp
  have hs1 : Sl W 9 1 v ms.length (strs ms) := hs.keep fun k hk => hW.block k (hs.lt k hk)
  have hd1 : ∀ k, v.ownBlock = some k → k ≠ Bl ∧ rowOf W Bl ≠ some k := fun k hk => ⟨hd k hk, by unfold rowOf; rw [blk_cell ((hW.block Bl (blk_lt hBl)).trans hBl)]; simp [Value.ownBlock]⟩
  obtain ⟨aoc, capc, rfl, hcc, hmc⟩ := hs1.shape
  clear hBc hp hs hBl hd hJ hJx hB0
  refine callsIn_of_wp Tryd.func64 rfl h64 ?_ hro
  simp only [Tryd.ntmps64, List.size_toArray, List.length_cons, List.length_nil, Nat.reduceAdd, Nat.reduceSub, Array.replicate_succ, Array.replicate_zero, List.push_toArray, List.append_toArray, List.nil_append, List.cons_append]
  have hml : ms.length ≤ 9223372036854775807 := by omega
  gi_wp2_with fail
  gi_loopw [4, 12] (fun _ s7 wr => ∃ k : Nat, k ≤ ms.length ∧ s7 = .int .i64 k ∧ J (ms.take k) wr ∧ Sl wr 9 1 (.slice aoc ms.length capc) ms.length (strs ms) ∧ ∀ q, (Value.slice aoc ms.length capc).ownBlock = some q → q ≠ Bl ∧ rowOf wr Bl ≠ some q) (fun _ s7 _ => ms.length - (intOf s7).toNat)
  case atStart => exact ⟨0, by omega, rfl, by simpa using h0, hs1, hd1⟩
  case round =>
    clear h0 hs1 hd1 cn cp
    obtain ⟨k, hk, rfl, hJk, hs, hd⟩ := hrel
    by_cases hkl : k < ms.length
    · obtain ⟨g, off, cap, cur, hv, _, _, hg, _, _⟩ := hs.blk (by omega)
      simp at hv
      obtain ⟨rfl, rfl⟩ := hv
      obtain ⟨x, hx⟩ : ∃ x, ms[k]? = some x := ⟨ms[k], List.getElem?_eq_getElem _⟩
      have hck := hs.cell k (by omega)
      rw [strs_at hx] at hck
      have HX := Lib.hid hx
      clear hg
      obtain ⟨fn, tmps, assign, body, hy, hR⟩ := hY (ms.take k) x wr hJk (take_pre hx)
      clear hY hx
      gi_wp2_with fail
      refine ⟨depth_ok hw, hR.mono ?_⟩
      clear hR hy
      rintro e W3 ⟨_, (⟨rfl, hJ3, hk3⟩ | ⟨rfl, hJx3⟩)⟩
      · obtain ⟨hs3, hd3⟩ := hk3.sl hs hd
        clear hk3 hs hd
        gi_wp2_with fail
        go_roundw
        case rel => exact ⟨k + 1, by omega, by go_num, by rw [List.take_add_one, HX.out]; exact hJ3, hs3, hd3⟩
        case measure => simp [intOf]; omega
      · gi_wp2_with fail
        refine bodyPost_ret (results_none rfl _ _ _) rfl ?_
        exact ⟨⟨_, rfl⟩, .inr ⟨ms.take k ++ [x], take_pre HX.out, hJx3⟩⟩
    · obtain rfl : k = ms.length := by omega
      gi_wp2_with fail
      go_end0
      exact ⟨⟨_, rfl⟩, .inl (by simpa using hJk)⟩
end Go.Proofs.YtflbcijmfcmilaaDoor
