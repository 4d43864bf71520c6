/- The marked mailbox: New, Put, Next, Take, Stop, Len, Examined, Wait, Drop. -/
import Derived.Test.YtgijaehmffojhaaOut
import Derived.Test.YtgijaehmffojhaaOrd
import Derived.Deep.CutBlock
namespace Go.Proofs.Ytgijaehmffojhaa
open Go.RowKit

/-- What a mailbox is: its nodes and their words; its room; is a scan going on; positions (0: none): what was examined last, behind which it began; the marks; how many were examined. -/
structure Bx where
  ns : List (Nat × Int)
  room : Int
  on : Bool
  last : Nat
  fro : Nat
  ms : List (Int × Nat)
  ex : Int

def Bx.words (X : Bx) : List Int := X.ns.map (·.2)

def mcs (ns : List (Nat × Int)) : List (Int × Nat) → List Value
  | [] => []
  | m :: ms => .int .i64 m.1 :: ptr (pos ns m.2) :: mcs ns ms

theorem mcs_len (ns : List (Nat × Int)) : ∀ ms, (mcs ns ms).length = ms.length * 2
  | [] => rfl
  | m :: ms => by simp only [mcs, List.length_cons, mcs_len ns ms]; omega

theorem mcs_app {ns l : List (Nat × Int)} : ∀ {ms : List (Int × Nat)}, (∀ m ∈ ms, m.2 ≤ ns.length) → mcs (ns ++ l) ms = mcs ns ms
  | [], _ => rfl
  | m :: ms, h => by simp only [mcs]; rw [pos_app (h m (by simp)), mcs_app (fun x hx => h x (by simp [hx]))]

structure Mb (w : World) (p : Nat) (mv : Value) (X : Bx) : Prop where
  dl : Dl w p X.ns (.int .i64 X.room) (.bool X.on) (ptr (pos X.ns X.last)) (ptr (pos X.ns X.fro)) mv (.int .i64 X.ex)
  own : Sl w 78 2 mv X.ms.length (mcs X.ns X.ms)
  last : X.last ≤ X.ns.length
  fro : X.fro ≤ X.ns.length
  mle : ∀ m ∈ X.ms, m.2 ≤ X.ns.length

def mf (p : Nat) (ns : List (Nat × Int)) (mv : Value) (k : Nat) : Prop := df p ns k ∨ mv.ownBlock = some k

def MPost (p : Nat) (ns : List (Nat × Int)) (mv : Value) (X : Bx) (w w' : World) : Prop :=
  ∃ mv', Mb w' p mv' X ∧ Fr (mf p ns mv) w w' ∧ ∀ k, mf p X.ns mv' k → mf p ns mv k ∨ w.heap.size ≤ k

theorem Mb.lt {w : World} {p : Nat} {mv : Value} {X : Bx} (h : Mb w p mv X) : ∀ k, mf p X.ns mv k → k < w.heap.size := by
  rintro k (hk | hk)
  · exact h.dl.lt k hk
  · exact h.own.lt k hk

theorem Mb.keep {w w' : World} {p : Nat} {mv : Value} {X : Bx} (h : Mb w p mv X) {F : Nat → Prop} (hf : Fr F w w') (hF : ∀ k, mf p X.ns mv k → ¬ F k) : Mb w' p mv X :=
  ⟨h.dl.keep hf (fun k hk => hF k (.inl hk)), hf.sl h.own (fun k hk => hF k (.inr hk)), h.last, h.fro, h.mle⟩

theorem bel_fr0 {w w' : World} (hb : Below w.heap.size w w') : Fr (fun _ => False) w w' := ⟨hb.os, hb.tape, hb.output, hb.size, fun k hk _ => hb.block k hk⟩

theorem Mb.same {w w' : World} {p : Nat} {mv : Value} {X : Bx} (h : Mb w p mv X) (hb : Below w.heap.size w w') : MPost p X.ns mv X w w' :=
  ⟨mv, h.keep (bel_fr0 hb) (fun _ _ h => h), (bel_fr0 hb).mono (fun _ h => h.elim), fun _ h => .inl h⟩

theorem bel_drew (w : World) : Below w.heap.size w w.drew := ⟨rfl, rfl, rfl, Nat.le_refl _, fun _ _ => rfl⟩
theorem below_drewN (w : World) (q : Nat) : Below w.heap.size w (w.drewN q) := ⟨rfl, rfl, rfl, Nat.le_refl _, fun _ _ => rfl⟩

theorem Mb.nep {w : World} {p : Nat} {mv : Value} {X : Bx} (h : Mb w p mv X) : ∀ k, mv.ownBlock = some k → k ≠ p := h.own.ne h.dl.blk (by decide)

theorem Mb.nen {w : World} {p : Nat} {mv : Value} {X : Bx} (h : Mb w p mv X) {i b : Nat} {x : Int} (hi : X.ns[i]? = some (b, x)) : ∀ k, mv.ownBlock = some k → k ≠ b := h.own.ne (h.dl.nodes i b x hi) (by decide)

theorem Dl.set3 {w : World} {p : Nat} {ns : List (Nat × Int)} {r3 r4 r5 r6 r7 r8 : Value} (h : Dl w p ns r3 r4 r5 r6 r7 r8) (u : Value) : Dl (w.setCell ⟨p, 3, none⟩ u) p ns u r4 r5 r6 r7 r8 :=
  ⟨by rw [blk_set h.blk]; rfl, fun i b x hi => by rw [blk_set_other _ (h.ne hi)]; exact h.nodes i b x hi, h.nd⟩
theorem Dl.set4 {w : World} {p : Nat} {ns : List (Nat × Int)} {r3 r4 r5 r6 r7 r8 : Value} (h : Dl w p ns r3 r4 r5 r6 r7 r8) (u : Value) : Dl (w.setCell ⟨p, 4, none⟩ u) p ns r3 u r5 r6 r7 r8 :=
  ⟨by rw [blk_set h.blk]; rfl, fun i b x hi => by rw [blk_set_other _ (h.ne hi)]; exact h.nodes i b x hi, h.nd⟩
theorem Dl.set5 {w : World} {p : Nat} {ns : List (Nat × Int)} {r3 r4 r5 r6 r7 r8 : Value} (h : Dl w p ns r3 r4 r5 r6 r7 r8) (u : Value) : Dl (w.setCell ⟨p, 5, none⟩ u) p ns r3 r4 u r6 r7 r8 :=
  ⟨by rw [blk_set h.blk]; rfl, fun i b x hi => by rw [blk_set_other _ (h.ne hi)]; exact h.nodes i b x hi, h.nd⟩
theorem Dl.set6 {w : World} {p : Nat} {ns : List (Nat × Int)} {r3 r4 r5 r6 r7 r8 : Value} (h : Dl w p ns r3 r4 r5 r6 r7 r8) (u : Value) : Dl (w.setCell ⟨p, 6, none⟩ u) p ns r3 r4 r5 u r7 r8 :=
  ⟨by rw [blk_set h.blk]; rfl, fun i b x hi => by rw [blk_set_other _ (h.ne hi)]; exact h.nodes i b x hi, h.nd⟩
theorem Dl.set7 {w : World} {p : Nat} {ns : List (Nat × Int)} {r3 r4 r5 r6 r7 r8 : Value} (h : Dl w p ns r3 r4 r5 r6 r7 r8) (u : Value) : Dl (w.setCell ⟨p, 7, none⟩ u) p ns r3 r4 r5 r6 u r8 :=
  ⟨by rw [blk_set h.blk]; rfl, fun i b x hi => by rw [blk_set_other _ (h.ne hi)]; exact h.nodes i b x hi, h.nd⟩
theorem Dl.set8 {w : World} {p : Nat} {ns : List (Nat × Int)} {r3 r4 r5 r6 r7 r8 : Value} (h : Dl w p ns r3 r4 r5 r6 r7 r8) (u : Value) : Dl (w.setCell ⟨p, 8, none⟩ u) p ns r3 r4 r5 r6 r7 u :=
  ⟨by rw [blk_set h.blk]; rfl, fun i b x hi => by rw [blk_set_other _ (h.ne hi)]; exact h.nodes i b x hi, h.nd⟩

/-- What was examined last is the one behind which one goes on. -/
def Bx.cur (X : Bx) : Nat := if X.last ≠ 0 then X.last else X.fro

def Bx.made (room : Int) : Bx := ⟨[], room, false, 0, 0, [], 0⟩

theorem New_ok (room : Int) (w : World) (h1 : 1 ≤ room) (h2 : room ≤ 32) :
    Calls Try.prog 9 #[.int .i64 room] w fun e w' => e = .returned (.pointer (some ⟨w.heap.size, 0, none⟩)) ∧ Mb w' w.heap.size (.slice none 0 0) (Bx.made room) ∧ Below w.heap.size w w' := by
  go_enter Try.func9, Try.ntmps9
  go_wp2_with fail
  go_ret
  have hlt := heap_alloc_new w (.cells #[.pointer none, .pointer none, .int .i64 0, .int .i64 room, .bool false, .pointer none, .pointer none, .slice none 0 0, .int .i64 0] 69)
  exact ⟨rfl, ⟨⟨hlt, by simp [Bx.made], by simp [Bx.made]⟩, Sl.nil _ _ _, Nat.le_refl _, Nat.le_refl _, by simp [Bx.made]⟩, (Below.refl _ _).alloc (Nat.le_refl _) _⟩

theorem New_nil (room : Int) (w : World) (h : room < 1 ∨ 32 < room) :
    Calls Try.prog 9 #[.int .i64 room] w fun e w' => e = .returned (.pointer none) ∧ w' = w := by
  by_cases h1 : room < 1
  · go_enter Try.func9, Try.ntmps9
    go_wp2
    go_ret
    exact ⟨rfl, rfl⟩
  · have h2 : 32 < room := by omega
    go_enter Try.func9, Try.ntmps9
    go_wp2
    go_ret
    exact ⟨rfl, rfl⟩

def Bx.put (X : Bx) (N : Nat) (v : Int) : Bx := { X with ns := X.ns ++ [(N, v)] }

set_option maxHeartbeats 800000 in
theorem Put_room (p : Nat) (mv : Value) (X : Bx) (v : Int) (w : World) (h : Mb w p mv X) (hl : X.ns.length ≤ 1000) (hr : (X.ns.length : Int) < X.room) :
    Calls Try.prog 10 #[.pointer (some ⟨p, 0, none⟩), .int .u64 v] w fun e w' => e = .returned (.int .i64 0) ∧ ∃ N, MPost p X.ns mv (X.put N v) w w' := by
  obtain ⟨ns, room, on, last, fro, ms, ex⟩ := X
  have c2 := blk_cell h.dl.blk 2
  have c3 := blk_cell h.dl.blk 3
  simp at c2 c3 hl hr
  go_enter Try.func10, Try.ntmps10
  go_wp2_with fail
  go_quiet (fail)
  go_wp2_with fail
  have h1 := h.keep ((Fr.refl (fun _ => False) w).drewN nq) (fun _ _ h => h)
  refine (push_any p ns _ _ _ _ _ _ v _ h1.dl hl).mono ?_
  rintro e w1 ⟨rfl, hd, hf⟩
  have hf0 : Fr (mf p ns mv) w w1 := ((Fr.refl _ w).drewN nq).trans (hf.mono fun k hk => Or.inl hk)
  have hnm : ∀ k, mv.ownBlock = some k → ¬ df p ns k := fun k hk hd' => by
    rcases hd' with e | hm
    · exact h.nep k hk e
    · obtain ⟨i, x, hi⟩ := mem_at hm
      exact h.nen hi k hk rfl
  have ho1 : Sl w1 78 2 mv ms.length (mcs ns ms) := hf.sl h1.own hnm
  have hh := h.last
  have hh2 := h.fro
  have hh3 := h.mle
  simp at hh hh2 hh3
  go_wp2_with fail
  go_ret
  refine ⟨rfl, w.heap.size, mv, ⟨?_, ?_, ?_, ?_, ?_⟩, hf0, fun k hk => ?_⟩
  · simp only [Bx.put]
    rw [pos_app hh, pos_app hh2]
    exact hd
  · simp only [Bx.put]
    rw [mcs_app (fun m hm => hh3 _ _ hm)]
    exact ho1
  · simp [Bx.put]; omega
  · simp [Bx.put]; omega
  · simp [Bx.put]
    intro a b hab
    have := hh3 a b hab
    omega
  · rcases hk with (e | hk) | hk
    · exact .inl (.inl (.inl e))
    · simp [Bx.put] at hk
      rcases hk with ⟨x, hk⟩ | e
      · exact .inl (.inl (.inr (List.mem_map.2 ⟨_, hk, rfl⟩)))
      · subst e; exact .inr (Nat.le_refl _)
    · exact .inl (.inr hk)

theorem Put_full (p : Nat) (mv : Value) (X : Bx) (v : Int) (w : World) (h : Mb w p mv X) (hr : X.room ≤ (X.ns.length : Int)) :
    Calls Try.prog 10 #[.pointer (some ⟨p, 0, none⟩), .int .u64 v] w fun e w' => e = .returned (.int .i64 110) ∧ MPost p X.ns mv X w w' := by
  have c2 := blk_cell h.dl.blk 2
  have c3 := blk_cell h.dl.blk 3
  simp at c2 c3
  go_enter Try.func10, Try.ntmps10
  go_wp2_with fail
  go_quiet (fail)
  go_wp2
  go_ret
  exact ⟨rfl, h.same (below_drewN _ _)⟩

def Bx.stopped (X : Bx) : Bx := { X with on := false, last := 0, fro := 0, ms := [] }

theorem Stop_dl (p : Nat) (ns : List (Nat × Int)) (r3 r4 r5 r6 r7 r8 : Value) (w : World) (h : Dl w p ns r3 r4 r5 r6 r7 r8) :
    Calls Try.prog 28 #[.pointer (some ⟨p, 0, none⟩)] w fun e w' => e = .returned (.tuple #[]) ∧ Dl w' p ns r3 (.bool false) (.pointer none) (.pointer none) (.slice none 0 0) r8 ∧ Fr (fun k => k = p) w w' := by
  have c4 := blk_cell h.blk 4
  have c5 := blk_cell h.blk 5
  have c6 := blk_cell h.blk 6
  have c7 := blk_cell h.blk 7
  have f4 := blk_free h.blk 4
  have f5 := blk_free h.blk 5
  have f6 := blk_free h.blk 6
  have f7 := blk_free h.blk 7
  simp at c4 c5 c6 c7
  go_enter Try.func28, Try.ntmps28
  go_wp2_with fail
  go_end0
  exact ⟨rfl, (((h.set4 _).set5 _).set6 _).set7 _, ((((Fr.refl (fun k => k = p) w).setCell (p := ⟨p, 4, none⟩) (.inl rfl) _).setCell (p := ⟨p, 5, none⟩) (.inl rfl) _).setCell (p := ⟨p, 6, none⟩) (.inl rfl) _).setCell (p := ⟨p, 7, none⟩) (.inl rfl) _⟩

theorem Stop_any (p : Nat) (mv : Value) (X : Bx) (w : World) (h : Mb w p mv X) :
    Calls Try.prog 28 #[.pointer (some ⟨p, 0, none⟩)] w fun e w' => e = .returned (.tuple #[]) ∧ MPost p X.ns mv X.stopped w w' := by
  refine (Stop_dl p _ _ _ _ _ _ _ w h.dl).mono ?_
  rintro e w' ⟨rfl, hd, hf⟩
  exact ⟨rfl, .slice none 0 0, ⟨hd, Sl.nil _ _ _, Nat.zero_le _, Nat.zero_le _, by simp [Bx.stopped]⟩, hf.mono (fun k hk => .inl (.inl hk)), fun k hk => by
    rcases hk with hk | hk
    · exact .inl (.inl hk)
    · simp [Value.ownBlock] at hk⟩

theorem Len_any (p : Nat) (mv : Value) (X : Bx) (w : World) (h : Mb w p mv X) :
    Calls Try.prog 25 #[.pointer (some ⟨p, 0, none⟩)] w fun e w' => e = .returned (.int .i64 (X.ns.length : Nat)) ∧ w' = w := by
  have c2 := blk_cell h.dl.blk 2
  simp at c2
  go_enter Try.func25, Try.ntmps25
  go_wp2
  go_ret
  exact ⟨rfl, rfl⟩

theorem Ex_any (p : Nat) (mv : Value) (X : Bx) (w : World) (h : Mb w p mv X) :
    Calls Try.prog 23 #[.pointer (some ⟨p, 0, none⟩)] w fun e w' => e = .returned (.int .i64 X.ex) ∧ w' = w := by
  have c2 := blk_cell h.dl.blk 8
  simp at c2
  go_enter Try.func23, Try.ntmps23
  go_wp2
  go_ret
  exact ⟨rfl, rfl⟩

theorem Wait_any (v : Value) (w : World) : Calls Try.prog 27 #[v] w fun e w' => e = .returned (.tuple #[]) ∧ w' = w := by
  go_enter Try.func27, Try.ntmps27
  go_wp2
  go_end0
  exact ⟨rfl, rfl⟩

theorem ptr_pos0 (ns : List (Nat × Int)) {k : Nat} (h : k = 0) : ptr (pos ns k) = .pointer none := by subst h; rfl

theorem Mb.at {w : World} {p : Nat} {mv : Value} {X : Bx} (_ : Mb w p mv X) {k : Nat} (h0 : 0 < k) (hk : k ≤ X.ns.length) : ∃ b x, X.ns[k - 1]? = some (b, x) ∧ ptr (pos X.ns k) = .pointer (some ⟨b, 0, none⟩) := by
  obtain ⟨⟨b, x⟩, hb⟩ : ∃ x, X.ns[k - 1]? = some x := ⟨X.ns[k - 1]'(by omega), List.getElem?_eq_getElem _⟩
  refine ⟨b, x, hb, ?_⟩
  have := pos_at hb
  rw [show k - 1 + 1 = k by omega] at this
  rw [this]; rfl

/-- The node that comes next is in slot 4: the walk of Next up to there. -/
def NextAt (p : Nat) (X : Bx) (w : World) (s4 : Value) (wx : World) : Prop := s4 = ptr (pos X.ns (X.cur + 1)) ∧ wx = w.setCell ⟨p, 4, none⟩ (.bool true)

theorem Mb.set_on {w : World} {p : Nat} {mv : Value} {X : Bx} (h : Mb w p mv X) (b : Bool) : Mb (w.setCell ⟨p, 4, none⟩ (.bool b)) p mv { X with on := b } :=
  ⟨h.dl.set4 _, h.own.set_other (a := ⟨p, 4, none⟩) _ h.nep, h.last, h.fro, h.mle⟩

theorem Mb.set_last {w : World} {p : Nat} {mv : Value} {X : Bx} (h : Mb w p mv X) (k : Nat) (hk : k ≤ X.ns.length) (v : Value) (hv : v = ptr (pos X.ns k)) : Mb (w.setCell ⟨p, 5, none⟩ v) p mv { X with last := k } := by
  subst hv
  exact ⟨h.dl.set5 _, h.own.set_other (a := ⟨p, 5, none⟩) _ h.nep, hk, h.fro, h.mle⟩

theorem Mb.set_fro {w : World} {p : Nat} {mv : Value} {X : Bx} (h : Mb w p mv X) (k : Nat) (hk : k ≤ X.ns.length) (v : Value) (hv : v = ptr (pos X.ns k)) : Mb (w.setCell ⟨p, 6, none⟩ v) p mv { X with fro := k } := by
  subst hv
  exact ⟨h.dl.set6 _, h.own.set_other (a := ⟨p, 6, none⟩) _ h.nep, h.last, hk, h.mle⟩

theorem Mb.set_ex {w : World} {p : Nat} {mv : Value} {X : Bx} (h : Mb w p mv X) (n : Int) : Mb (w.setCell ⟨p, 8, none⟩ (.int .i64 n)) p mv { X with ex := n } :=
  ⟨h.dl.set8 _, h.own.set_other (a := ⟨p, 8, none⟩) _ h.nep, h.last, h.fro, h.mle⟩

theorem setCell_p {p : Nat} {ns : List (Nat × Int)} {mv : Value} {a w : World} (h : Fr (mf p ns mv) a w) (i : Nat) (u : Value) : Fr (mf p ns mv) a (w.setCell ⟨p, i, none⟩ u) := h.setCell (p := ⟨p, i, none⟩) (.inl (.inl (.inl rfl))) u

def Bx.told (X : Bx) : Bx := { X with on := true, last := X.cur + 1, ex := X.ex + 1 }
def Bx.going (X : Bx) : Bx := { X with on := true }

set_option maxHeartbeats 3200000 in
theorem Next_any' (p : Nat) (mv : Value) (X : Bx) (w : World) (h : Mb w p mv X) (h0 : 0 ≤ X.ex) (h1 : X.ex ≤ 1152921504606846976) :
    Calls Try.prog 14 #[.pointer (some ⟨p, 0, none⟩)] w fun e w' =>
      (∃ b x, X.ns[X.cur]? = some (b, x) ∧ e = .returned (.tuple #[.int .u64 x, .bool true]) ∧ MPost p X.ns mv X.told w w') ∨
      (X.ns.length ≤ X.cur ∧ e = .returned (.tuple #[.int .u64 0, .bool false]) ∧ MPost p X.ns mv X.going w w') := by
  have c0 := blk_cell h.dl.blk 0
  have c4 := blk_cell h.dl.blk 4
  have f4 := blk_free h.dl.blk 4
  have c5 := blk_cell h.dl.blk 5
  have c6 := blk_cell h.dl.blk 6
  simp at c0 c4 c5 c6
  obtain ⟨oh, hoh⟩ : ∃ o, ptr (pos X.ns 1) = .pointer o := ⟨_, ptr_shape _⟩
  rw [hoh] at c0
  have HOH := Lib.hid hoh
  clear hoh
  obtain ⟨ol, hol⟩ : ∃ o, ptr (pos X.ns X.last) = .pointer o := ⟨_, ptr_shape _⟩
  obtain ⟨off, hof⟩ : ∃ o, ptr (pos X.ns X.fro) = .pointer o := ⟨_, ptr_shape _⟩
  rw [hol] at c5
  rw [hof] at c6
  have hll := h.last
  have hlf := h.fro
  go_enter Try.func14, Try.ntmps14
  go_upto_block 0 with fail
  go_cut [4] (fun s4 wx => NextAt p X w s4 wx)
  case first =>
    by_cases l0 : X.last = 0
    · obtain rfl : ol = none := by rw [l0] at hol; simp [pos, ptr] at hol; exact hol.symm
      by_cases r0 : X.fro = 0
      · obtain rfl : off = none := by rw [r0] at hof; simp [pos, ptr] at hof; exact hof.symm
        clear hol hof
        go_wp2_with fail
        go_meet
        case rel => exact ⟨by rw [show X.cur = 0 by unfold Bx.cur; rw [if_neg (by omega), r0]]; exact HOH.out.symm, rfl⟩
      · obtain ⟨b, x, hb, hp⟩ := h.at (show 0 < X.fro by omega) hlf
        rw [hof] at hp
        simp at hp
        subst hp
        have n0 := h.dl.nodes _ _ _ hb
        have hbp := h.dl.ne hb
        have n2 := blk_cell n0 2
        simp at n2
        obtain ⟨nx, hnx⟩ : ∃ nx, ptr (pos X.ns (X.fro - 1 + 2)) = nx := ⟨_, rfl⟩
        rw [hnx] at n2
        have HX := Lib.hid hnx
        clear hol hof hnx hb
        go_wp2_with fail
        go_meet
        case rel => exact ⟨by rw [show X.cur + 1 = X.fro - 1 + 2 by unfold Bx.cur; rw [if_neg (by omega)]; omega]; exact HX.out.symm, rfl⟩
    · obtain ⟨b, x, hb, hp⟩ := h.at (show 0 < X.last by omega) hll
      rw [hol] at hp
      simp at hp
      subst hp
      have n0 := h.dl.nodes _ _ _ hb
      have hbp := h.dl.ne hb
      have n2 := blk_cell n0 2
      simp at n2
      obtain ⟨nx, hnx⟩ : ∃ nx, ptr (pos X.ns (X.last - 1 + 2)) = nx := ⟨_, rfl⟩
      rw [hnx] at n2
      have HX := Lib.hid hnx
      clear hol hof hnx hb
      go_wp2_with fail
      go_meet
      case rel => exact ⟨by rw [show X.cur + 1 = X.last - 1 + 2 by unfold Bx.cur; rw [if_pos l0]; omega]; exact HX.out.symm, rfl⟩
  case rest =>
    obtain ⟨rfl, rfl⟩ := hcut
    have hs := h.set_on true
    have hfr := setCell_p (Fr.refl (mf p X.ns mv) w) 4 (.bool true)
    clear c0 c4 f4 c5 c6 hol hof HOH h
    generalize w.setCell ⟨p, 4, none⟩ (.bool true) = w1 at hs hfr ⊢
    by_cases hlt : X.cur < X.ns.length
    · obtain ⟨⟨b, x⟩, hb⟩ : ∃ x, X.ns[X.cur]? = some x := ⟨X.ns[X.cur]'hlt, List.getElem?_eq_getElem _⟩
      have hpb : ptr (pos X.ns (X.cur + 1)) = .pointer (some ⟨b, 0, none⟩) := by rw [pos_at hb]; rfl
      rw [hpb]
      have n0 := hs.dl.nodes _ _ _ hb
      have hbp : b ≠ p := hs.dl.ne hb
      have n00 := blk_cell n0 0
      have c5 := blk_cell hs.dl.blk 5
      have f5 := blk_free hs.dl.blk 5
      have c8 := blk_cell hs.dl.blk 8
      have f8 := blk_free hs.dl.blk 8
      simp at c5 c8 n00
      have HB := Lib.hid hb
      have HP := Lib.hid hpb
      clear hb hpb n0
      go_wp2_with fail
      go_ret2
      refine .inl ⟨b, x, HB.out, rfl, mv, ?_, setCell_p (setCell_p hfr 5 _) 8 _, fun k hk => .inl hk⟩
      exact (hs.set_last (X.cur + 1) hlt _ HP.out.symm).set_ex _
    · rw [pos_over (by omega)]
      simp only [ptr]
      go_wp2_with fail
      go_ret2
      exact .inr ⟨by omega, rfl, mv, hs, hfr, fun k hk => .inl hk⟩

theorem Take_none (p : Nat) (mv : Value) (X : Bx) (w : World) (h : Mb w p mv X) (hl : X.last = 0) :
    Calls Try.prog 11 #[.pointer (some ⟨p, 0, none⟩)] w fun e w' => e = .returned (.tuple #[.int .u64 0, .int .i64 111]) ∧ w' = w := by
  have c5 := blk_cell h.dl.blk 5
  simp at c5
  rw [hl] at c5
  simp only [pos, ptr] at c5
  go_enter Try.func11, Try.ntmps11
  go_wp2_with fail
  go_ret2
  exact ⟨rfl, rfl⟩

def Bx.taken (X : Bx) : Bx := ⟨X.ns.eraseIdx (X.last - 1), X.room, false, 0, 0, [], X.ex⟩

set_option maxHeartbeats 1600000 in
set_option maxRecDepth 100000 in
theorem Take_some (p : Nat) (mv : Value) (X : Bx) (w : World) (h : Mb w p mv X) (hl : 0 < X.last) (hn : X.ns.length ≤ 1000) (b : Nat) (x : Int) (hb : X.ns[X.last - 1]? = some (b, x)) :
    Calls Try.prog 11 #[.pointer (some ⟨p, 0, none⟩)] w fun e w' => e = .returned (.tuple #[.int .u64 x, .int .i64 0]) ∧ MPost p X.ns mv X.taken w w' := by
  have hpb : ptr (pos X.ns X.last) = .pointer (some ⟨b, 0, none⟩) := by
    have := pos_at hb
    rw [show X.last - 1 + 1 = X.last by omega] at this
    rw [this]; rfl
  have n0 := h.dl.nodes _ _ _ hb
  have n00 := blk_cell n0 0
  have c5 := blk_cell h.dl.blk 5
  simp at c5 n00
  rw [hpb] at c5
  have HB := Lib.hid hb
  clear hpb hb n0
  go_enter Try.func11, Try.ntmps11
  go_wp2_with fail
  refine wp_region_still_tail 7 (by kernel_rfl) (by kernel_rfl) ?_
  simp only [List.take_succ_cons, List.take_zero, List.drop_succ_cons, List.drop_zero]
  change wpStill _ _ (w.drew) (fun a' => wpList _ _ _ _ a' (w.drew)) _ _
  have y1 : w.drew.cell? ⟨p, 5, none⟩ = _ := c5
  have hd : Dl w.drew p X.ns _ _ _ _ _ _ := h.dl.keep ((Fr.refl (fun _ => False) w).drew) (fun _ _ h => h)
  have hf : Fr (df p X.ns) w w.drew := (Fr.refl _ w).drew
  generalize w.drew = w2 at y1 hd hf ⊢
  clear c5 n00
  repeat still_step
  refine wpStill_nil ?_
  go_wp2_with fail
  refine (out_any p X.ns (X.last - 1) b x _ _ _ _ _ _ _ hd HB.out hn).mono ?_
  rintro e w3 ⟨rfl, hd3, hf3⟩
  clear y1 hd
  go_wp2_with fail
  refine (Stop_dl p _ _ _ _ _ _ _ _ hd3).mono ?_
  rintro e w4 ⟨rfl, hd4, hf4⟩
  go_wp2_with fail
  go_ret2
  refine ⟨rfl, .slice none 0 0, ⟨hd4, Sl.nil _ _ _, Nat.zero_le _, Nat.zero_le _, by simp [Bx.taken]⟩, ((hf.trans hf3).mono (fun k hk => Or.inl hk)).trans (hf4.mono fun k hk => .inl (.inl hk)), fun k hk => ?_⟩
  rcases hk with (hk | hk) | hk
  · exact .inl (.inl (.inl hk))
  · obtain ⟨y, hy, rfl⟩ := List.mem_map.1 hk
    exact .inl (.inl (.inr (List.mem_map.2 ⟨y, List.mem_of_mem_eraseIdx hy, rfl⟩)))
  · simp [Value.ownBlock] at hk

def Bx.dropped (X : Bx) : Bx := ⟨[], X.room, false, 0, 0, [], X.ex⟩

theorem Drop_any (p : Nat) (mv : Value) (X : Bx) (w : World) (h : Mb w p mv X) :
    Calls Try.prog 29 #[.pointer (some ⟨p, 0, none⟩)] w fun e w' => e = .returned (.tuple #[]) ∧ MPost p X.ns mv X.dropped w w' := by
  have c0 := blk_cell h.dl.blk 0
  have c1 := blk_cell h.dl.blk 1
  have c2 := blk_cell h.dl.blk 2
  have f0 := blk_free h.dl.blk 0
  have f1 := blk_free h.dl.blk 1
  have f2 := blk_free h.dl.blk 2
  simp at c0 c1 c2
  have HB := Lib.hid h.dl.blk
  go_enter Try.func29, Try.ntmps29
  go_wp2_with fail
  have hd : Dl (((w.setCell ⟨p, 0, none⟩ (.pointer none)).setCell ⟨p, 1, none⟩ (.pointer none)).setCell ⟨p, 2, none⟩ (.int .i64 0)) p [] (.int .i64 X.room) (.bool X.on) (ptr (pos X.ns X.last)) (ptr (pos X.ns X.fro)) mv (.int .i64 X.ex) :=
    ⟨by rw [blk_set (blk_set (blk_set HB.out 0 _) 1 _) 2]; rfl, by simp, by simp⟩
  have hf : Fr (mf p X.ns mv) w (((w.setCell ⟨p, 0, none⟩ (.pointer none)).setCell ⟨p, 1, none⟩ (.pointer none)).setCell ⟨p, 2, none⟩ (.int .i64 0)) :=
    setCell_p (setCell_p (setCell_p (Fr.refl _ w) 0 _) 1 _) 2 _
  generalize ((w.setCell ⟨p, 0, none⟩ (.pointer none)).setCell ⟨p, 1, none⟩ (.pointer none)).setCell ⟨p, 2, none⟩ (.int .i64 0) = w2 at hd hf ⊢
  refine (Stop_dl p _ _ _ _ _ _ _ _ hd).mono ?_
  rintro e w4 ⟨rfl, hd4, hf4⟩
  go_wp2_with fail
  go_end0
  refine ⟨rfl, .slice none 0 0, ⟨hd4, Sl.nil _ _ _, Nat.zero_le _, Nat.zero_le _, by simp [Bx.dropped]⟩, hf.trans (hf4.mono fun k hk => .inl (.inl hk)), fun k hk => ?_⟩
  rcases hk with (hk | hk) | hk
  · exact .inl (.inl (.inl hk))
  · simp [Bx.dropped] at hk
  · simp [Value.ownBlock] at hk
end Go.Proofs.Ytgijaehmffojhaa
