/- All: the messages, one by one; and the law's own loop that gathers them. -/
import Derived.Test.YtgijaehmffojhaaPtake
import Derived.Test.YtgijaehmffojhaaIter
namespace Go.Proofs.Ytgijaehmffojhaa.Plain
open Go.RowKit Go.Shelf
attribute [local go_sem] Oper.semAt_some

set_option maxRecDepth 100000 in
set_option maxHeartbeats 1600000 in
/-- What All hands back, called with whatever loop body that keeps the clone. -/
theorem all1_in (F : Fence) (hw : Hid (F = Fence.wide)) (h58 : F.fn 58) (h59 : F.fn 59) (hro : F.round = none) (n : Nat) (l Bn Bl p : Nat) (room : Int) (at_ : Nat) (ex : Int) (ms : List Int) (sl : Value) (hms : ms.length ≤ 1000) (J Jx : List Int → World → Prop)
    (W : World) (hJ : AbidesFrom W.heap.size J)
    (hY : ∀ pre x W, J pre W → pre.length < ms.length → YieldAt F (n - 1) Try.prog l #[.int .u64 x] W fun e W' =>
      (e = .returned (.bool true) ∧ J (pre ++ [x]) W' ∧ KpL Bl W W') ∨ (e = .returned (.bool false) ∧ Jx (pre ++ [x]) W'))
    (hBn : W.heap[Bn]? = some (.cells #[.pointer (some ⟨p, 0, none⟩)] 57 (0, 0))) (hBl : rowOf W Bl = none) (hlt : Bl < W.heap.size) (hb : Box W p room at_ ex ms sl) (h0 : J [] W) :
    CallsIn F n Try.prog 58 #[.func (.yield l) #[] #[], .pointer (some ⟨Bn, 0, none⟩)] W fun e W' => (∃ v, e = .returned v) ∧
      ((∃ ys, ys = ms ∧ J ys W') ∨ (∃ pre, pre <+: ms ∧ Jx pre W')) := by
  have cn := blk_cell hBn 0
  have c1 := blk_cell hb.blk 1
  simp at cn c1
  refine callsIn_of_wp Try.func58 rfl h58 ?_ hro
  simp only [Try.ntmps58, List.size_toArray, List.length_cons, List.length_nil, Nat.reduceAdd, Nat.reduceSub, Array.replicate_succ, Array.replicate_zero, List.push_toArray, List.append_toArray, List.nil_append, List.cons_append]
  refine wpIn_scope_wide hw ?_
  gi_wp2
  refine wpIn_label ?_
  obtain ⟨aos, caps, rfl, _, _⟩ := hb.own.shape
  gi_wp2_with fail
  refine ⟨depth_ok hw, (callsIn_of hw (Clone_any _ _ ms W hb.own.rd hms)).mono ?_⟩
  rintro e W1 ⟨vc, rfl, hsc, hfc, hgc⟩
  have hJ1 : J [] W1 := hJ _ _ _ _ h0 (hfc.grownBy (fun _ h => h)) (fun r e => by cases e)
  have hd1 : ∀ k, vc.ownBlock = some k → k ≠ Bl ∧ rowOf W1 Bl ≠ some k := by
    intro k hk
    have := hgc k hk
    refine ⟨by omega, ?_⟩
    have e1 : rowOf W1 Bl = rowOf W Bl := by
      unfold rowOf
      rw [World.cell?_of_block (w := W) (a := ⟨Bl, 0, none⟩) (hfc.block Bl hlt (fun h => h))]
    rw [e1, hBl]
    simp
  obtain ⟨aoc, capc, rfl, hcc, hmc⟩ := hsc.shape
  have hml : ms.length ≤ 9223372036854775807 := by omega
  clear hfc hgc h0 hJ hBl hb hBn c1 cn
  gi_wp2_with fail
  gi_loopw [4, 14] (fun _ s14 wr => ∃ k : Nat, k ≤ ms.length ∧ s14 = .int .i64 k ∧ J (ms.take k) wr ∧ Sl wr 26 1 (.slice aoc ms.length capc) ms.length (u64s ms) ∧ ∀ q, (Value.slice aoc ms.length capc).ownBlock = some q → q ≠ Bl ∧ rowOf wr Bl ≠ some q) (fun _ s14 _ => ms.length - (intOf s14).toNat)
  case atStart => exact ⟨0, by omega, rfl, by simpa using hJ1, hsc, hd1⟩
  case round =>
    clear hJ1 hsc hd1
    obtain ⟨k, hk, rfl, hJk, hs, hd⟩ := hrel
    by_cases hkl : k < ms.length
    · obtain ⟨g, off, cap, cur, hv, _, _, hg, _, _⟩ := hs.blk (by omega)
      simp at hv
      obtain ⟨rfl, rfl⟩ := hv
      obtain ⟨x, hx⟩ : ∃ x, ms[k]? = some x := ⟨ms[k], List.getElem?_eq_getElem _⟩
      have hck := hs.cell k (by omega)
      rw [u64s_at hx] at hck
      have HX := Lib.hid hx
      clear hx hg
      obtain ⟨fn, tmps, assign, body, hy, hR⟩ := hY (ms.take k) x wr hJk (by simp; omega)
      clear hY
      gi_wp2_with fail
      refine ⟨depth_ok hw, hR.mono ?_⟩
      clear hR hy
      rintro e W3 (⟨rfl, hJ3, hk3⟩ | ⟨rfl, hJx3⟩)
      · obtain ⟨hs3, hd3⟩ := hk3.sl hs hd
        clear hk3 hs hd
        gi_wp2_with fail
        go_roundw
        case rel => exact ⟨k + 1, by omega, by go_num, by rw [List.take_add_one, HX.out]; exact hJ3, hs3, hd3⟩
        case measure => simp [intOf]; omega
      · gi_wp2_with fail
        rw [Exit.noGoto_normal]
        go_end0
        exact ⟨⟨_, rfl⟩, .inr ⟨ms.take k ++ [x], ⟨ms.drop (k + 1), by rw [← Option.toList_some (a := x), ← HX.out, ← List.take_add_one]; exact List.take_append_drop _ _⟩, hJx3⟩⟩
    · obtain rfl : k = ms.length := by omega
      gi_wp2_with fail
      rw [Exit.noGoto_normal]
      go_end0
      exact ⟨⟨_, rfl⟩, .inl ⟨ms, rfl, by simpa using hJk⟩⟩

/-- b.All(): the receiver is boxed; the function value captures the box. -/
theorem allf_in (F : Fence) (n : Nat) (h41 : F.fn 41) (hro : F.round = none) (p : Option Addr) (w : World) :
    CallsIn F n Try.prog 41 #[.pointer p] w fun e w' => e = .returned (.func (.func 58) #[] #[.pointer (some ⟨w.heap.size, 0, none⟩)]) ∧ w' = w.alloc (.cells #[.pointer p] 57) := by
  refine callsIn_of_wp Try.func41 rfl h41 ?_ hro
  simp only [Try.ntmps41, List.size_toArray, List.length_cons, List.length_nil, Nat.reduceAdd, Nat.reduceSub, Array.replicate_succ, Array.replicate_zero, List.push_toArray, List.append_toArray, List.nil_append, List.cons_append]
  gi_wp2
  go_ret
  exact ⟨rfl, rfl⟩

theorem all_stops (F : Fence) (hw : Hid (F = Fence.wide)) (h58 : F.fn 58) (h59 : F.fn 59) (hro : F.round = none) (n : Nat) (Bn Bl p : Nat) (room : Int) (at_ : Nat) (ex : Int) (ms : List Int) (sl : Value) (hms : ms.length ≤ 1000) (w : World)
    (hBn : w.heap[Bn]? = some (.cells #[.pointer (some ⟨p, 0, none⟩)] 57 (0, 0))) (hBl : w.heap[Bl]? = some (.cells #[.slice none 0 0] 22 (0, 0))) (hb : Box w p room at_ ex ms sl) :
    SeqStopsK F n Try.prog 58 #[.pointer (some ⟨Bn, 0, none⟩)] (fun x : Int => #[Value.int .u64 x]) (KpL Bl) (fun ys => ys = ms) (fun pre => pre <+: ms) ms.length w := fun l J Jx W hW hJ _ hY h0 =>
  have hf : Fr (fun k => w.heap.size ≤ k) w W := ⟨hW.os, hW.tape, hW.output, hW.size, fun k hk _ => hW.block k hk⟩
  have hBl' : W.heap[Bl]? = some (.cells #[.slice none 0 0] 22 (0, 0)) := (hW.block Bl (blk_lt hBl)).trans hBl
  all1_in F hw h58 h59 hro n l Bn Bl p room at_ ex ms sl hms J Jx W hJ hY ((hW.block Bn (blk_lt hBn)).trans hBn)
    (by unfold rowOf; rw [blk_cell hBl']; simp [Value.ownBlock]) (blk_lt hBl') (hb.keep hf (fun k hk h => by have := hb.lt k hk; omega)) h0

end Go.Proofs.Ytgijaehmffojhaa.Plain
