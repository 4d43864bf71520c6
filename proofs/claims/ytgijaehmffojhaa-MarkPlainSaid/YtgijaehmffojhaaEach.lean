/- list.all: an iterator over the nodes. -/
import Derived.Test.YtgijaehmffojhaaRng
import Derived.Test.YtgijaehmffojhaaAwake
namespace Go.Proofs.Ytgijaehmffojhaa
open Go.RowKit Go.Shelf
attribute [local go_sem] Oper.semAt_some

/-- What list.all reads: the head, and of each node the next one. -/
structure Nx (w : World) (p : Nat) (ns : List (Nat × Int)) : Prop where
  head : w.cell? ⟨p, 0, none⟩ = some (ptr (pos ns 1))
  next : ∀ (i b : Nat) (x : Int), ns[i]? = some (b, x) → w.cell? ⟨b, 2, none⟩ = some (ptr (pos ns (i + 2)))

theorem Dl.nx {w : World} {p : Nat} {ns : List (Nat × Int)} {r3 r4 r5 r6 r7 r8 : Value} (h : Dl w p ns r3 r4 r5 r6 r7 r8) : Nx w p ns := by
  refine ⟨?_, fun i b x hi => ?_⟩
  · have := blk_cell h.blk 0
    simpa using this
  · have := blk_cell (h.nodes i b x hi) 2
    simpa using this

theorem cell_lt {w : World} {b i : Nat} {v : Value} (h : w.cell? ⟨b, i, none⟩ = some v) : b < w.heap.size := by
  rcases Nat.lt_or_ge b w.heap.size with h' | h'
  · exact h'
  · simp [World.cell?, Array.getElem?_eq_none h'] at h

theorem cell_same {w w' : World} {b i : Nat} (h : w'.heap[b]? = w.heap[b]?) : w'.cell? ⟨b, i, none⟩ = w.cell? ⟨b, i, none⟩ := by
  unfold World.cell?
  rw [h]

theorem Nx.keep {w w' : World} {p : Nat} {ns : List (Nat × Int)} (h : Nx w p ns) (hk : ∀ k, k < w.heap.size → df p ns k → w'.heap[k]? = w.heap[k]?) : Nx w' p ns :=
  ⟨by rw [cell_same (hk p (cell_lt h.head) (.inl rfl))]; exact h.head, fun i b x hi => by rw [cell_same (hk b (cell_lt (h.next i b x hi)) (.inr (at_mem hi)))]; exact h.next i b x hi⟩

theorem cell_cells {w : World} {b i : Nat} {v : Value} {o : Obj} (h : w.cell? ⟨b, i, none⟩ = some v) (ho : w.heap[b]? = some o) : o.isCells = true := by
  unfold World.cell? at h
  rw [ho] at h
  cases o <;> simp_all [Obj.isCells]

/-- What turns no cells leaves it. -/
theorem Nx.own {w w' : World} {p : Nat} {ns : List (Nat × Int)} {row : Option Nat} (h : Nx w p ns) (hg : w.grownBy w' row) (hr : ∀ r, row = some r → ∃ o : Obj, w.heap[r]? = some o ∧ o.isCells = false) : Nx w' p ns := by
  have key : ∀ (b i : Nat) (v : Value), w.cell? ⟨b, i, none⟩ = some v → w'.cell? ⟨b, i, none⟩ = some v := fun b i v hc => by
    rw [cell_same (hg.block b (cell_lt hc) (fun e => ?_))]
    · exact hc
    · obtain ⟨o, ho, hn⟩ := hr b e.symm
      rw [cell_cells hc ho] at hn
      cases hn
  exact ⟨key _ _ _ h.head, fun i b x hi => key _ _ _ (h.next i b x hi)⟩

/-- How many nodes are still to come. -/
def rank (ns : List (Nat × Int)) : Value → Nat
  | .pointer (some a) => ns.length - (ns.map (·.1)).findIdx (fun b => b == a.block)
  | _ => 0

theorem rank_pos {ns : List (Nat × Int)} (nd : (ns.map (·.1)).Nodup) {k : Nat} (hk : k ≤ ns.length) : rank ns (ptr (pos ns (k + 1))) = ns.length - k := by
  by_cases h : k < ns.length
  · obtain ⟨⟨b, x⟩, hb⟩ : ∃ x, ns[k]? = some x := ⟨ns[k]'h, List.getElem?_eq_getElem _⟩
    rw [pos_at hb]
    show ns.length - (ns.map (·.1)).findIdx (fun c => c == b) = _
    have hm : (ns.map (·.1))[k]? = some b := by simp [hb]
    obtain ⟨hl, he⟩ := List.getElem?_eq_some_iff.1 hm
    rw [(List.findIdx_eq hl).2 ⟨by rw [he]; simp, fun j hj => ?_⟩]
    have hj' : j < (ns.map (·.1)).length := by omega
    have hne : (ns.map (·.1))[j] ≠ b := fun e => by
      have h1 : (ns.map (·.1))[j]? = some b := by rw [List.getElem?_eq_getElem hj', e]
      have := (List.getElem?_inj hl nd).1 (hm.trans h1.symm)
      omega
    simpa using hne
  · rw [pos_over (by omega)]
    show 0 = _
    omega

set_option maxRecDepth 100000 in
set_option maxHeartbeats 1600000 in
theorem each_seq (F : Fence) (hw : Hid (F = Fence.wide)) (h54 : F.fn 54) (hro : F.round = none) (n : Nat) (p : Nat) (ns : List (Nat × Int)) (nd : (ns.map (·.1)).Nodup) (Kp : World → World → Prop) (hKp : ∀ W W', Kp W W' → Nx W p ns → Nx W' p ns)
    (B0 : Nat) (w : World) (hN : Nx w p ns) :
    SeqO F n Try.prog 54 #[.pointer (some ⟨p, 0, none⟩)] #[] (fun m : Nat × Int => #[.pointer (some ⟨m.1, 0, none⟩)]) Kp ns B0 w := fun l J Jx W hb _ _ _ hY h0 => by
  have hN0 : Nx W p ns := hN.keep fun k hk _ => hb.block k hk
  clear hN hb
  have c0 := hN0.head
  have ND := Lib.hid nd
  obtain ⟨oh, hoh⟩ : ∃ o, ptr (pos ns 1) = .pointer o := ⟨_, ptr_shape _⟩
  rw [hoh] at c0
  have HOH := Lib.hid hoh
  clear hoh nd
  refine callsIn_of_wp Try.func54 rfl h54 ?_ hro
  simp only [Try.ntmps54, List.size_toArray, List.length_cons, List.length_nil, Nat.reduceAdd, Nat.reduceSub, Array.replicate_succ, Array.replicate_zero, List.push_toArray, List.append_toArray, List.nil_append, List.cons_append, List.append_nil]
  gi_wp2_with fail
  gi_loopw [4] (fun s4 wr => ∃ k : Nat, k ≤ ns.length ∧ s4 = ptr (pos ns (k + 1)) ∧ J (ns.take k) wr ∧ Nx wr p ns) (fun s4 _ => rank ns s4)
  case atStart => exact ⟨0, Nat.zero_le _, HOH.out.symm, by simpa using h0, hN0⟩
  case round =>
    clear h0 hN0 c0
    obtain ⟨k, hk, rfl, hJ, hN⟩ := hrel
    have HRK := Lib.hid (rank_pos ND.out hk)
    by_cases hkl : k < ns.length
    · obtain ⟨⟨b, x⟩, hbx⟩ : ∃ x, ns[k]? = some x := ⟨ns[k]'hkl, List.getElem?_eq_getElem _⟩
      have hpb : ptr (pos ns (k + 1)) = .pointer (some ⟨b, 0, none⟩) := by rw [pos_at hbx]; rfl
      have hpre : ns.take k ++ [(b, x)] = ns.take (k + 1) := by rw [List.take_add_one, hbx]; rfl
      obtain ⟨fn, tmps, assign, body, hy, hR⟩ := hY (ns.take k) (b, x) wr hJ (by rw [hpre]; exact List.take_prefix _ _)
      obtain ⟨on, hon⟩ : ∃ o, ptr (pos ns (k + 2)) = .pointer o := ⟨_, ptr_shape _⟩
      have HON := Lib.hid hon
      have HB := Lib.hid hbx
      have HPRE := Lib.hid hpre
      rw [hpb] at HRK ⊢
      clear hY hon hbx hpre hpb
      gi_wp2_with fail
      refine ⟨depth_ok hw, hR.mono ?_⟩
      clear hR hy
      rintro e W3 ⟨_, (⟨rfl, hJ3, hk3⟩ | ⟨rfl, hJx3⟩)⟩
      · have hN3 := hKp _ _ hk3 hN
        have d2 := hN3.next k b x HB.out
        rw [HON.out] at d2
        rw [HPRE.out] at hJ3
        clear hk3 hN hJ
        gi_wp2_with fail
        go_roundw
        case rel => exact ⟨k + 1, by omega, HON.out.symm, hJ3, hN3⟩
        case measure =>
          have h1 := rank_pos ND.out (show k + 1 ≤ ns.length by omega)
          rw [show k + 1 + 1 = k + 2 from rfl, HON.out] at h1
          rw [h1, HRK.out]
          omega
      · gi_wp2_with fail
        refine bodyPost_ret (results_none rfl _ _ _) rfl ?_
        exact ⟨⟨_, rfl⟩, .inr ⟨ns.take k ++ [(b, x)], by rw [HPRE.out]; exact List.take_prefix _ _, hJx3⟩⟩
    · obtain rfl : k = ns.length := by omega
      have hpn : ptr (pos ns (ns.length + 1)) = .pointer none := by rw [pos_over (by omega)]; rfl
      rw [hpn]
      gi_wp2_with fail
      go_end0
      exact ⟨⟨_, rfl⟩, .inl (by simpa using hJ)⟩
end Go.Proofs.Ytgijaehmffojhaa
