/- The reader of a text in quotes: a struct in a block of its own, a builder inside. -/
import Derived.Test.YtflbcijmfcmilaaDoorQuote
namespace Go.Proofs.YtflbcijmfcmilaaDoor
open Go.RowKit

theorem Tryd.lies71 : liesAt Tryd.prog Tryd.prog.depth 71 (5 / Tryd.prog.cellsOf 71) 2 53 1 = true := by kernel_rfl

/-- In block b: the text, the place, the builder that holds the bytes bs, the mark. -/
def Rdr (b : Nat) (s : ByteArray) (pos : Nat) (bs : List Value) (bad : Bool) (w : World) : Prop :=
  ∃ p v, (p = .pointer none ∨ p = .pointer (some ⟨b, 2, none⟩)) ∧ w.heap[b]? = some (.cells #[.string s, .int .i64 pos, p, v, .bool bad] 71 (0, 0)) ∧ w.ownsRowF b 5 1 v bs.length bs ∧ v.ownBlock ≠ some b ∧ (bs = [] → v = .slice none 0 0)

theorem Rdr.lt {b : Nat} {s : ByteArray} {pos : Nat} {bs : List Value} {bad : Bool} {w : World} (h : Rdr b s pos bs bad w) : b < w.heap.size := by
  obtain ⟨p, v, _, hb, _⟩ := h
  exact blk_lt hb

theorem Rdr.drewN {b : Nat} {s : ByteArray} {pos : Nat} {bs : List Value} {bad : Bool} {w : World} (h : Rdr b s pos bs bad w) (q : Nat) : Rdr b s pos bs bad (w.drewN q) := by
  obtain ⟨p, v, hp, hb, hown, hne, hnil⟩ := h
  exact ⟨p, v, hp, hb, hown.kept (row := none) ⟨rfl, rfl, rfl, Nat.le_refl _, fun _ _ _ => rfl⟩ (by cases hv : v.ownBlock <;> simp), hne, hnil⟩

/-- What a call leaves that makes memory alone. -/
theorem Rdr.below {b : Nat} {s : ByteArray} {pos : Nat} {bs : List Value} {bad : Bool} {w w' : World} (h : Rdr b s pos bs bad w) (hb' : Below w.heap.size w w') : Rdr b s pos bs bad w' := by
  have hlt := h.lt
  obtain ⟨p, v, hp, hb, hown, hne, hnil⟩ := h
  exact ⟨p, v, hp, by rw [hb'.block b hlt]; exact hb, hown.kept (row := none) ⟨hb'.os, hb'.tape, hb'.output, hb'.size, fun k hk _ => hb'.block k hk⟩ (by cases hv : v.ownBlock <;> simp), hne, hnil⟩

/-- A store into a cell of the reader itself. -/
theorem own_set {b : Nat} {v : Value} {bs : List Value} {w : World} (hown : w.ownsRowF b 5 1 v bs.length bs) (hne : v.ownBlock ≠ some b) (o : Nat) (u : Value) : (w.setCell ⟨b, o, none⟩ u).ownsRowF b 5 1 v bs.length bs :=
  hown.kept (row := some b) ⟨rfl, rfl, rfl, by simp [World.setCell], fun k _ hk => Below.heap_setCell _ _ _ _ (fun e => hk (by simp [e]))⟩ (Or.inr hne)

theorem Rdr.setPos {b : Nat} {s : ByteArray} {pos : Nat} {bs : List Value} {bad : Bool} {w : World} (h : Rdr b s pos bs bad w) (n : Nat) : Rdr b s n bs bad (w.setCell ⟨b, 1, none⟩ (.int .i64 n)) := by
  obtain ⟨p, v, hp, hb, hown, hne, hnil⟩ := h
  exact ⟨p, v, hp, blk_set hb 1 _, own_set hown hne _ _, hne, hnil⟩

theorem Rdr.setBad {b : Nat} {s : ByteArray} {pos : Nat} {bs : List Value} {bad : Bool} {w : World} (h : Rdr b s pos bs bad w) : Rdr b s pos bs true (w.setCell ⟨b, 4, none⟩ (.bool true)) := by
  obtain ⟨p, v, hp, hb, hown, hne, hnil⟩ := h
  exact ⟨p, v, hp, blk_set hb 4 _, own_set hown hne _ _, hne, hnil⟩

theorem Rdr.c0 {b : Nat} {s : ByteArray} {pos : Nat} {bs : List Value} {bad : Bool} {w : World} (h : Rdr b s pos bs bad w) : w.cell? ⟨b, 0, none⟩ = some (.string s) := by
  obtain ⟨p, v, hp, hb, _⟩ := h
  rw [blk_cell hb]; rfl
theorem Rdr.c1 {b : Nat} {s : ByteArray} {pos : Nat} {bs : List Value} {bad : Bool} {w : World} (h : Rdr b s pos bs bad w) : w.cell? ⟨b, 1, none⟩ = some (.int .i64 pos) := by
  obtain ⟨p, v, hp, hb, _⟩ := h
  rw [blk_cell hb]; rfl
theorem Rdr.c4 {b : Nat} {s : ByteArray} {pos : Nat} {bs : List Value} {bad : Bool} {w : World} (h : Rdr b s pos bs bad w) : w.cell? ⟨b, 4, none⟩ = some (.bool bad) := by
  obtain ⟨p, v, hp, hb, _⟩ := h
  rw [blk_cell hb]; rfl
theorem Rdr.free {b : Nat} {s : ByteArray} {pos : Nat} {bs : List Value} {bad : Bool} {w : World} (h : Rdr b s pos bs bad w) (i : Nat) : w.frozen? ⟨b, i, none⟩ = false := by
  obtain ⟨p, v, hp, hb, _⟩ := h
  exact blk_free hb i

/-- What a method leaves. -/
def RPost (b : Nat) (s : ByteArray) (pos : Nat) (bs : List Value) (bad : Bool) (w w' : World) : Prop := Rdr b s pos bs bad w' ∧ Below b w w'

set_option maxHeartbeats 1000000 in
theorem rd_check (b : Nat) (s : ByteArray) (pos : Nat) (bs : List Value) (bad : Bool) (w : World) (h : Rdr b s pos bs bad w) :
    Calls Tryd.prog 54 #[.pointer (some ⟨b, 2, none⟩)] w fun e w' => e = .returned (.tuple #[]) ∧ RPost b s pos bs bad w w' := by
  obtain ⟨p, v, hp, hb, hown, hne, hnil⟩ := h
  obtain ⟨j, hj, hjs⟩ := Option.map_eq_some_iff.1 Tryd.size53
  have c2 := blk_cell hb 2
  simp at c2
  rcases hp with rfl | rfl
  · have hfz := blk_free hb 2
    have hsh : w.shape? b = some (71, 5) := by simp [World.shape?, hb]
    have h1 := Lib.run_to_unsafe (P := Tryd.prog) w ⟨b, 2, none⟩ Tryd.underlying50 Tryd.underlying93 hj (by rw [hjs]; decide) hsh (by show 2 < 5; omega)
    have h3 := Lib.run_from_unsafe (P := Tryd.prog) w ⟨b, 2, none⟩ Tryd.underlying93 Tryd.underlying50 hj hsh Tryd.lies71
    have h2 : (callFunc 65 #[.pointer (some ⟨b, 2, none⟩)]).run Tryd.prog w = .ok (.value (.pointer (some ⟨b, 2, none⟩))) w := by
      rw [run_callFunc_extern Tryd.func65 (by kernel_rfl) (by kernel_rfl) (by kernel_rfl) (e := Extern.AbiNoEscape.same) (by kernel_rfl)]
      rw [Lib.run_noEscape]
      rfl
    have hpost : RPost b s pos bs bad w (w.setCell ⟨b, 2, none⟩ (.pointer (some ⟨b, 2, none⟩))) := ⟨⟨_, v, .inr rfl, blk_set hb 2 _, own_set hown hne _ _, hne, hnil⟩, (Below.refl b w).setCell (p := ⟨b, 2, none⟩) (Nat.le_refl _) _⟩
    have HP := Lib.hid hpost
    clear hpost hb hown hne hnil hsh hjs
    go_enter Tryd.func54, Tryd.ntmps54
    go_wp2_with fail
    go_end0
    exact ⟨rfl, HP.out⟩
  · have hn := Lib.run_neq_ptr_same (P := Tryd.prog) w ⟨b, 2, none⟩ Tryd.underlying50 hj
    have hpost : RPost b s pos bs bad w w := ⟨⟨_, v, .inr rfl, hb, hown, hne, hnil⟩, Below.refl b w⟩
    have HP := Lib.hid hpost
    clear hpost hb hown hne hnil hjs
    go_enter Tryd.func54, Tryd.ntmps54
    go_wp2_with fail
    go_end0
    exact ⟨rfl, HP.out⟩

set_option maxHeartbeats 2000000 in
theorem rd_rune (b : Nat) (s : ByteArray) (pos : Nat) (bs : List Value) (bad : Bool) (r : Int) (hr0 : -2147483648 ≤ r) (hr1 : r ≤ 2147483647) (w : World) (h : Rdr b s pos bs bad w) (hlen : bs.length + 4 ≤ 140737488355328) :
    Calls Tryd.prog 36 #[.pointer (some ⟨b, 2, none⟩), .int .i32 r] w fun e w' => e = .returned (.tuple #[.int .i64 (Lib.runeCells r).length, .nilIface]) ∧ RPost b s pos (bs ++ Lib.runeCells r) bad w w' := by
  have hk4 := Lib.runeCells_le r
  have hbw := h.lt
  go_enter Tryd.func36, Tryd.ntmps36
  go_wp2_with fail
  refine (rd_check b s pos bs bad _ h).mono ?_
  rintro e w1 ⟨rfl, hat, hb1⟩
  have hbw1 := hat.lt
  obtain ⟨p, v, hp, hbk, hown, hne, hnil⟩ := hat
  obtain ⟨ao, cap, rfl⟩ : ∃ ao cap, v = .slice ao bs.length cap := by
    rcases hown.2 with ⟨hv, h0⟩ | ⟨g, cap, cur, fz, hv, _⟩
    · exact ⟨none, 0, by rw [hv, h0]⟩
    · exact ⟨_, _, hv⟩
  have c3 := blk_cell hbk 3
  simp at c3
  have hs1 := hb1.size
  go_wp2_with fail
  refine (Any.utf8_AppendRune_row Tryd.lays242 Tryd.info5 b _ bs.length bs r hr0 hr1 _ hown hlen (by omega)).mono ?_
  rintro e w2 ⟨v', rfl, hown', o, hgrow⟩
  replace hown' : w2.ownsRowF b 5 1 v' (bs.length + (Lib.runeCells r).length) (bs ++ Lib.runeCells r) := hown'
  have hb2 : w2.heap[b]? = some (.cells #[.string s, .int .i64 pos, p, .slice ao bs.length cap, .bool bad] 71 (0, 0)) := by
    rw [hgrow.block b (by simp; omega) (fun e => hne e.symm), Lib.alloc_old w1 _ b hbw1]
    exact hbk
  clear c3
  have c3 := blk_cell hb2 3
  have f3 := blk_free hb2 3
  simp at c3
  obtain ⟨g, cap', rfl⟩ := own_pos hown' (by omega)
  have hne' : (Value.slice (some ⟨g, 0, none⟩) (bs.length + (Lib.runeCells r).length) cap').ownBlock ≠ some b := Lib.ownBlock_neF hown' hb2 (by decide)
  have hpost : RPost b s pos (bs ++ Lib.runeCells r) bad w (w2.setCell ⟨b, 3, none⟩ (.slice (some ⟨g, 0, none⟩) (bs.length + (Lib.runeCells r).length) cap')) := by
    refine ⟨⟨p, _, hp, blk_set hb2 3 _, ?_, hne', fun h => ?_⟩, ?_⟩
    · have := own_set (bs := bs ++ Lib.runeCells r) (by simpa using hown') hne' 3 (.slice (some ⟨g, 0, none⟩) (bs.length + (Lib.runeCells r).length) cap')
      simpa using this
    · have := congrArg List.length h
      rw [List.length_append] at this
      simp only [List.length_nil] at this
      omega
    · exact ((hb1.alloc (by omega) _).grown hgrow (by simp; omega) (fun k hk => (hown.lt k hk).1)).setCell (p := ⟨b, 3, none⟩) (Nat.le_refl _) _
  have HP := Lib.hid hpost
  clear hpost hown' hgrow hown hne hnil hbk hb1 h
  go_wp2_with fail
  go_ret2
  refine ⟨?_, HP.out⟩
  have e : ((bs.length : Int) + ((Lib.runeCells r).length : Int) - (bs.length : Int)) = ((Lib.runeCells r).length : Int) := by omega
  simp [e]

set_option maxHeartbeats 2000000 in
set_option maxRecDepth 100000 in
theorem rd_String (b : Nat) (s : ByteArray) (pos : Nat) (l : List UInt8) (bad : Bool) (w : World) (h : Rdr b s pos (Lib.byteCells l) bad w) :
    Calls Tryd.prog 39 #[.pointer (some ⟨b, 2, none⟩)] w fun e w' => e = .returned (.string ⟨l.toArray⟩) ∧ RPost b s pos (Lib.byteCells l) bad w w' := by
  obtain ⟨p, v, hp, hbk, hown, hne, hnil⟩ := h
  by_cases h0 : l = []
  · subst h0
    obtain rfl := hnil rfl
    have hUS : ∀ (W : World) (q : Option Addr), (Builtin.unsafeString_ #[82, 3] 9 #[.pointer q, .int .i64 0]).run Tryd.prog W = .ok (.string .empty) W := fun W q => Lib.run_unsafeString_none W _ _ _ q
    have c3 : w.drew.cell? ⟨b, 3, none⟩ = some (.slice none 0 0) := by
      have : w.drew.heap[b]? = some (.cells #[.string s, .int .i64 pos, p, .slice none 0 0, .bool bad] 71 (0, 0)) := hbk
      rw [blk_cell this]; rfl
    have hSD : (Builtin.unsafeSliceData_ #[51] 82 #[.slice none 0 0]).run Tryd.prog w.drew = .ok (.pointer none) w.drew := rfl
    have hpost : RPost b s pos (Lib.byteCells []) bad w w.drew := ⟨Rdr.drewN ⟨p, _, hp, hbk, hown, hne, fun _ => rfl⟩ 1, Below.drew (Below.refl b w)⟩
    have HP := Lib.hid hpost
    clear hpost hnil hown hne hbk hp
    have mixed : Tryd.prog.follows .mixedOrders = true := Tryd.lays169.mixed
    go_enter Tryd.func39, Tryd.ntmps39
    go_wp2
    go_region_o
    all_goals (go_wp2; go_ret; exact ⟨rfl, HP.out⟩)
  · have hl0 : l.length ≠ 0 := by simpa using h0
    have hlen : (Lib.byteCells l).length = l.length := Lib.byteCells_length l
    rw [hlen] at hown
    obtain ⟨g, cap, cur, fz, rfl, hbg, hg, hfz, hnc, hcm, hcs, htake⟩ : ∃ g cap cur fz, v = .slice (some ⟨g, 0, none⟩) l.length cap ∧ b ≤ g ∧ w.heap[g]? = some (.cells cur 5 fz) ∧ fz.2 ≤ l.length * 1 ∧ l.length ≤ cap ∧ cap ≤ maxLen ∧ cur.size = cap * 1 ∧ cur.toList.take (l.length * 1) = Lib.byteCells l := by
      rcases hown.2 with ⟨_, hz⟩ | ⟨g, cap, cur, fz, hv, r⟩
      · exact absurd hz hl0
      · exact ⟨g, cap, cur, fz, hv, r⟩
    have c3 : w.drew.cell? ⟨b, 3, none⟩ = some (.slice (some ⟨g, 0, none⟩) l.length cap) := by
      have : w.drew.heap[b]? = some (.cells #[.string s, .int .i64 pos, p, .slice (some ⟨g, 0, none⟩) l.length cap, .bool bad] 71 (0, 0)) := hbk
      rw [blk_cell this]; rfl
    have hSD : (Builtin.unsafeSliceData_ #[51] 82 #[.slice (some ⟨g, 0, none⟩) l.length cap]).run Tryd.prog w.drew = .ok (.pointer (some ⟨g, 0, none⟩)) w.drew :=
      Lib.run_unsafeSliceData_row _ _ _ _ _ _ (by omega)
    have hUS : (Builtin.unsafeString_ #[82, 3] 9 #[.pointer (some ⟨g, 0, none⟩), .int .i64 l.length]).run Tryd.prog w.drew = .ok (.string ⟨l.toArray⟩) (w.drew.freeze ⟨g, 0, none⟩ l.length) := by
      refine Lib.run_unsafeString_row w.drew 82 3 9 5 Tryd.underlying82 (by kernel_rfl) g cur.size (by have hg' : w.drew.heap[g]? = some (.cells cur 5 fz) := hg; simp [World.shape?, hg']) l h0 (by omega) (by unfold maxLen at hcm; omega) ?_
      intro j x hx
      have := hown.cells (g := g) rfl j (.int .u8 x.toNat) (by simp [Lib.byteCells, hx])
      exact this
    have hgb : g ≠ b := fun e => hne (by simp [Value.ownBlock, e])
    have hpost : RPost b s pos (Lib.byteCells l) bad w (w.drew.freeze ⟨g, 0, none⟩ l.length) := by
      refine ⟨⟨p, .slice (some ⟨g, 0, none⟩) l.length cap, hp, ?_, ?_, hne, fun h => absurd (congrArg List.length h) (by rw [hlen]; exact hl0)⟩, Lib.below_freeze (Below.drew (Below.refl b w)) (p := ⟨g, 0, none⟩) hbg _⟩
      · unfold World.freeze
        rw [if_neg hl0]
        simp only [Array.getElem?_modify]
        rw [if_neg hgb]
        exact hbk
      · rw [hlen]
        unfold World.freeze
        rw [if_neg hl0]
        obtain ⟨lo, hi⟩ := fz
        refine ⟨hown.1, .inr ⟨g, cap, cur, (if lo == hi then (0, 0 + l.length) else (min lo 0, max hi (0 + l.length))), rfl, hbg, ?_, ?_, hnc, hcm, hcs, htake⟩⟩
        · have hg' : w.drew.heap[g]? = some (.cells cur 5 (lo, hi)) := hg
          simp [Array.getElem?_modify, hg']
        · simp only at hfz
          split <;> simp <;> omega
    have HP := Lib.hid hpost
    clear hpost hnil hown hne hbk hp hg hfz hnc hcm hcs htake hgb hlen
    have mixed : Tryd.prog.follows .mixedOrders = true := Tryd.lays169.mixed
    go_enter Tryd.func39, Tryd.ntmps39
    go_wp2
    go_region_o
    all_goals (go_wp2; go_ret; exact ⟨rfl, HP.out⟩)

set_option maxHeartbeats 1000000 in
theorem rd_put (b : Nat) (s : ByteArray) (pos : Nat) (bs : List Value) (bad : Bool) (n : Nat) (hn : n ≤ 4294967296) (w : World) (h : Rdr b s pos bs bad w) (hlen : bs.length + 4 ≤ 140737488355328) :
    Calls Tryd.prog 85 #[.pointer (some ⟨b, 0, none⟩), .int .i64 n] w fun e w' => e = .returned (.tuple #[]) ∧ RPost b s pos (if okRune n then bs ++ Lib.runeCells n else bs) (if okRune n then bad else true) w w' := by
  have c4 := h.c4
  have f4 := h.free 4
  by_cases h1 : n < 55296 ∨ (57344 ≤ n ∧ n ≤ 1114111)
  · have hok : okRune n = true := by simpa [okRune] using h1
    have hw : IntKind.i32.wrap (n : Int) = n := by
      have := IntWalk.i32_in (n : Int) (by omega)
      exact this
    rw [if_pos hok, if_pos hok]
    have HK := Lib.hid (rd_rune b s pos bs bad n (by omega) (by omega) w h hlen)
    clear hok
    rcases h1 with h1 | ⟨h1, h2⟩
    all_goals
      go_enter Tryd.func85, Tryd.ntmps85
      go_wp2_with fail
      refine (HK.out).mono ?_
      rintro e w1 ⟨rfl, hp⟩
      go_wp2_with fail
      go_end0
      exact ⟨rfl, hp⟩
  · have hok : okRune n = false := by simpa [okRune] using h1
    rw [if_neg (by rw [hok]; decide), if_neg (by rw [hok]; decide)]
    have HP := Lib.hid (show RPost b s pos bs true w (w.setCell ⟨b, 4, none⟩ (.bool true)) from ⟨h.setBad, (Below.refl b w).setCell (p := ⟨b, 4, none⟩) (Nat.le_refl _) _⟩)
    have h2 : 1114111 < n ∨ (55296 ≤ n ∧ n < 57344) := by omega
    clear hok h1 h
    rcases h2 with h1 | ⟨h1, h2⟩
    all_goals
      go_enter Tryd.func85, Tryd.ntmps85
      go_wp2_with fail
      exact bodyPost_ret (v := .tuple #[]) (by simp [results, go_sem]) rfl ⟨rfl, HP.out⟩
end Go.Proofs.YtflbcijmfcmilaaDoor
