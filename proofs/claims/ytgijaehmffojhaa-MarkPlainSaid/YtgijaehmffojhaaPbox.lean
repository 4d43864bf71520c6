/- The mailbox that scans from its head: what each of its calls does to a box in memory. -/
import Derived.Test.YtgijaehmffojhaaTakesLaw
import Derived.WalkSpells
namespace Go.Proofs.Ytgijaehmffojhaa.Plain
open Go.RowKit


/-- A box of room 'room' with the messages l in memory at block p; sl: the slice of its messages. -/
structure Box (w : World) (p : Nat) (room : Int) (at_ : Nat) (ex : Int) (l : List Int) (sl : Value) : Prop where
  blk : w.heap[p]? = some (.cells #[.int .i64 room, sl, .int .i64 (at_ : Int), .int .i64 ex] 88 (0, 0))
  own : Sl w 26 1 sl l.length (l.map (Value.int .u64))

/-- The blocks of a box. -/
def bf (p : Nat) (sl : Value) (k : Nat) : Prop := k = p ∨ sl.ownBlock = some k

def BoxPost (p : Nat) (room : Int) (at_ : Nat) (ex : Int) (l : List Int) (sl : Value) (w w' : World) : Prop :=
  ∃ sl', Box w' p room at_ ex l sl' ∧ Fr (bf p sl) w w' ∧ (∀ k, bf p sl' k → bf p sl k ∨ w.heap.size ≤ k)

set_option maxHeartbeats 800000 in
theorem put_any (p : Nat) (room : Int) (at_ : Nat) (ex m : Int) (l : List Int) (sl : Value) (w : World) (hb : Box w p room at_ ex l sl) (hl : l.length ≤ 1000) :
    Calls Try.prog 57 #[.pointer (some ⟨p, 1, none⟩), .int .u64 m] w fun e w' => e = .returned (.tuple #[]) ∧ BoxPost p room at_ ex (l ++ [m]) sl w w' := by
  obtain ⟨i0, hi, hz0, hz1, hz2⟩ := info_parts Try.info26
  have hp := blk_lt hb.blk
  have c1 := blk_cell hb.blk 1
  have f1 := blk_free hb.blk 1
  simp at c1
  have hne := hb.own.ne hb.blk (by decide)
  have hfr : Fr (bf p sl) w (w.alloc (.cells #[.int .u64 m] 26)) := (Fr.refl _ _).alloc _
  go_enter Try.func57, Try.ntmps57
  go_wp2_with (at_builtin; refine wpList_append_sl rfl (.tmp 8) (.tmp 10) 22 rfl 26 i0 (.int .u64 0) 1 8 Try.underlying22 hi hz0 hz1 hz2 rfl (by decide) sl l.length (l.map (Value.int .u64)) rfl (hb.own.alloc _) ⟨w.heap.size, 0, none⟩ 1 1 [.int .u64 m] rfl rfl ?c1 ?c2 ?b1 ?b2 ?next)
  case c1 => intro j u hj; match j, hj with | 0, hj => simp at hj; subst hj; simp [Addr.add]
  case c2 => intro u hu; simp at hu; subst hu; rfl
  case b1 => unfold maxLen; omega
  case b2 => omega
  case next =>
    intro v' w1 hown hgrow hv
    have hfr1 : Fr (bf p sl) w w1 := hfr.trans (hgrow.mono fun k hk => Or.inr hk)
    have hblk1 := hgrow.at (blk_alloc (o' := .cells #[.int .u64 m] 26) hb.blk) (fun e => hne p e rfl)
    have c1' := blk_cell hblk1 1
    have f1' := blk_free hblk1 1
    simp at c1'
    obtain ⟨ao, cap, rfl, _, _⟩ := hown.shape
    go_wp2
    go_end0
    exact ⟨rfl, _, ⟨by rw [blk_set hblk1]; rfl, by simpa using hown.set_other (a := ⟨p, 1, none⟩) _ (hown.ne hblk1 (by decide))⟩, hfr1.setCell (Or.inl (Or.inl rfl)) _, by
      rintro k (h | h)
      · exact .inl (.inl h)
      · rcases hv with hv | hv
        · exact .inl (.inr (hv ▸ h))
        · rw [hv] at h; simp at h; exact .inr (by omega)⟩

/-- What a box says to a walk. -/
theorem Box.drewN {w : World} {p : Nat} {room : Int} {at_ : Nat} {ex : Int} {l : List Int} {sl : Value} (h : Box w p room at_ ex l sl) (n : Nat) : Box (w.drewN n) p room at_ ex l sl := ⟨h.blk, h.own.drewN n⟩
theorem Box.post {w w' : World} {p : Nat} {room : Int} {at_ : Nat} {ex : Int} {l : List Int} {sl : Value} (h : Box w p room at_ ex l sl) (hw : ∃ n, w' = w.drewN n) : BoxPost p room at_ ex l sl w w' := by
  obtain ⟨n, rfl⟩ := hw
  exact ⟨sl, h.drewN n, (Fr.refl _ _).drewN n, fun _ hk => .inl hk⟩
theorem BoxPost.trans {p : Nat} {room : Int} {at_ : Nat} {ex : Int} {l : List Int} {sl sl1 : Value} {w w1 w' : World}
    (hf : Fr (bf p sl) w w1) (hg : ∀ k, bf p sl1 k → bf p sl k ∨ w.heap.size ≤ k) (h : BoxPost p room at_ ex l sl1 w1 w') : BoxPost p room at_ ex l sl w w' := by
  obtain ⟨sl', hb, hf', hg'⟩ := h
  refine ⟨sl', hb, hf.trans' hf' hg, fun k hk => ?_⟩
  rcases hg' k hk with h | h
  · exact hg k h
  · exact .inr (Nat.le_trans hf.size h)

theorem BoxPost.from {p : Nat} {room : Int} {at_ : Nat} {ex : Int} {l : List Int} {sl : Value} {w w' : World} {n : Nat} (h : BoxPost p room at_ ex l sl (w.drewN n) w') : BoxPost p room at_ ex l sl w w' :=
  BoxPost.trans ((Fr.refl _ _).drewN n) (fun _ hk => .inl hk) h

set_option maxHeartbeats 800000 in
theorem Put_room (p : Nat) (room : Int) (at_ : Nat) (ex m : Int) (l : List Int) (sl : Value) (w : World) (hb : Box w p room at_ ex l sl) (hl : l.length ≤ 1000) (hlt : (l.length : Int) < room) :
    Calls Try.prog 37 #[.pointer (some ⟨p, 0, none⟩), .int .u64 m] w fun e w' => e = .returned (.int .i64 0) ∧ BoxPost p room at_ ex (l ++ [m]) sl w w' := by
  obtain ⟨ao, cap, rfl, hcap, hmax⟩ := hb.own.shape
  have hp := blk_lt hb.blk
  have c0 := blk_cell hb.blk 0
  have c1 := blk_cell hb.blk 1
  simp at c0 c1
  unfold maxLen at hmax
  go_enter Try.func37, Try.ntmps37
  go_wp2_with fail
  go_quiet (fail)
  go_wp2_with (go_at_call 57; refine (put_any p room at_ ex m l _ _ (hb.drewN _) hl).mono ?_; rintro e w1 ⟨rfl, hpost⟩)
  go_ret
  exact ⟨rfl, hpost.from⟩

set_option maxHeartbeats 800000 in
theorem Put_full (p : Nat) (room : Int) (at_ : Nat) (ex m : Int) (l : List Int) (sl : Value) (w : World) (hb : Box w p room at_ ex l sl) (hlt : room ≤ (l.length : Int)) :
    Calls Try.prog 37 #[.pointer (some ⟨p, 0, none⟩), .int .u64 m] w fun e w' => e = .returned (.int .i64 110) ∧ BoxPost p room at_ ex l sl w w' := by
  obtain ⟨ao, cap, rfl, hcap, hmax⟩ := hb.own.shape
  have hp := blk_lt hb.blk
  have c0 := blk_cell hb.blk 0
  have c1 := blk_cell hb.blk 1
  simp at c0 c1
  unfold maxLen at hmax
  go_enter Try.func37, Try.ntmps37
  go_wp2_with fail
  go_quiet (fail)
  go_wp2
  go_ret
  exact ⟨rfl, hb.post ⟨_, rfl⟩⟩

/-- A box that the call itself made: all its blocks lie at B or beyond; below B nothing has turned since w0. -/
structure BoxIn (B : Nat) (w0 w : World) (p : Nat) (room : Int) (at_ : Nat) (ex : Int) (l : List Int) (sl : Value) : Prop where
  box : Box w p room at_ ex l sl
  lies : ∀ k, bf p sl k → B ≤ k
  below : Below B w0 w
  size : B ≤ w.heap.size

theorem BoxIn.step {B : Nat} {w0 w w' : World} {p : Nat} {room room' : Int} {at_ at' : Nat} {ex ex' : Int} {l l' : List Int} {sl : Value}
    (h : BoxIn B w0 w p room at_ ex l sl) (hp : BoxPost p room' at' ex' l' sl w w') : ∃ sl', BoxIn B w0 w' p room' at' ex' l' sl' := by
  obtain ⟨sl', hb, hf, hg⟩ := hp
  have hs := h.size
  exact ⟨sl', hb, fun k hk => by rcases hg k hk with x | x; exact h.lies k x; omega, h.below.trans (hf.below h.size h.lies), Nat.le_trans h.size hf.size⟩

theorem Box.lt {w : World} {p : Nat} {room : Int} {at_ : Nat} {ex : Int} {l : List Int} {sl : Value} (h : Box w p room at_ ex l sl) : ∀ k, bf p sl k → k < w.heap.size := by
  rintro k (rfl | hk)
  · exact blk_lt h.blk
  · exact h.own.lt k hk

/-- A box stays, where its blocks are not written. -/
theorem Box.keep {w w' : World} {p : Nat} {room : Int} {at_ : Nat} {ex : Int} {l : List Int} {sl : Value} (h : Box w p room at_ ex l sl) {F : Nat → Prop} (hf : Fr F w w') (hF : ∀ k, bf p sl k → ¬ F k) : Box w' p room at_ ex l sl :=
  ⟨hf.at h.blk (hF p (.inl rfl)), hf.sl h.own (fun k hk => hF k (.inr hk))⟩

theorem BoxIn.keep {B : Nat} {w0 w w' : World} {p : Nat} {room : Int} {at_ : Nat} {ex : Int} {l : List Int} {sl : Value} (h : BoxIn B w0 w p room at_ ex l sl) {F : Nat → Prop} (hf : Fr F w w') (hF : ∀ k, bf p sl k → ¬ F k) (hB : ∀ k, F k → B ≤ k) : BoxIn B w0 w' p room at_ ex l sl :=
  ⟨h.box.keep hf hF, h.lies, h.below.trans (hf.below h.size hB), Nat.le_trans h.size hf.size⟩

/-- A step of the box beside a slice that lies apart from it. -/
theorem BoxIn.step2 {B : Nat} {w0 w w' : World} {p : Nat} {room room' : Int} {at_ at' : Nat} {ex ex' : Int} {l l' : List Int} {sl : Value}
    (h : BoxIn B w0 w p room at_ ex l sl) (hp : BoxPost p room' at' ex' l' sl w w') {e size n : Nat} {v : Value} {xs : List Value} (hs : Sl w e size v n xs) (hd : ∀ k, v.ownBlock = some k → ¬ bf p sl k) :
    ∃ sl', BoxIn B w0 w' p room' at' ex' l' sl' ∧ Sl w' e size v n xs ∧ ∀ k, v.ownBlock = some k → ¬ bf p sl' k := by
  obtain ⟨sl', hb, hf, hg⟩ := hp
  have hs' := h.size
  refine ⟨sl', ⟨hb, fun k hk => by rcases hg k hk with x | x; exact h.lies k x; omega, h.below.trans (hf.below h.size h.lies), Nat.le_trans h.size hf.size⟩, hf.sl hs hd, fun k hk hb' => ?_⟩
  rcases hg k hb' with x | x
  · exact hd k hk x
  · have := hs.lt k hk; omega

/-! ### New -/
def newObj (room : Int) : Obj := .cells #[.int .i64 room, .slice none 0 0, .int .i64 0, .int .i64 0] 88

theorem New_ok (room : Int) (w : World) (h1 : 1 ≤ room) (h2 : room ≤ 32) :
    Calls Try.prog 32 #[.int .i64 room] w fun e w' => e = .returned (.pointer (some ⟨w.heap.size, 0, none⟩)) ∧ w' = w.alloc (newObj room) := by
  go_enter Try.func32, Try.ntmps32
  go_wp2
  go_ret
  exact ⟨rfl, rfl⟩

theorem New_nil (room : Int) (w : World) (h : room < 1 ∨ 32 < room) :
    Calls Try.prog 32 #[.int .i64 room] w fun e w' => e = .returned (.pointer none) ∧ w' = w := by
  go_enter Try.func32, Try.ntmps32
  go_wp2
  all_goals (go_ret; exact ⟨rfl, rfl⟩)

theorem Box.new (w : World) (room : Int) : Box (w.alloc (newObj room)) w.heap.size room 0 0 [] (.slice none 0 0) :=
  ⟨heap_alloc_new w _, Sl.nil _ _ _⟩

theorem BoxIn.new (w : World) (room : Int) : BoxIn w.heap.size w (w.alloc (newObj room)) w.heap.size room 0 0 [] (.slice none 0 0) :=
  ⟨Box.new w room, fun k hk => by rcases hk with rfl | hk; exact Nat.le_refl _; simp [Value.ownBlock] at hk, (Below.refl _ _).alloc (Nat.le_refl _) _, by simp⟩

/-! ### Next -/
set_option maxHeartbeats 1600000 in
theorem Next_more (p : Nat) (room : Int) (at_ : Nat) (ex : Int) (l : List Int) (sl : Value) (w : World) (hb : Box w p room at_ ex l sl) (m : Int) (hm : l[at_]? = some m) (hl : l.length ≤ 1000) :
    Calls Try.prog 55 #[.pointer (some ⟨p, 0, none⟩)] w fun e w' => e = .returned (.tuple #[.int .u64 m, .bool true]) ∧ BoxPost p room (at_ + 1) (wrap64 (ex + 1)) l sl w w' := by
  have hlt : at_ < l.length := (List.getElem?_eq_some_iff.1 hm).1
  obtain ⟨g, off, cap, cur, rfl, hcap, hmax, hg, hfit, htake⟩ := hb.own.blk (by omega)
  have hp := blk_lt hb.blk
  have c1 := blk_cell hb.blk 1
  have c2 := blk_cell hb.blk 2
  have c3 := blk_cell hb.blk 3
  have f2 := blk_free hb.blk 2
  have f3 := blk_free hb.blk 3
  have hne := hb.own.ne hb.blk (by decide) g rfl
  simp at c1 c2 c3
  unfold maxLen at hmax
  go_enter Try.func55, Try.ntmps55
  go_wp2_with fail
  go_quiet (fail)
  go_wp2_with fail
  obtain ⟨w2, hw2⟩ : ∃ w2, ((w.drewN nq).setCell ⟨p, 2, none⟩ (.int .i64 (at_ + 1 : Int))).setCell ⟨p, 3, none⟩ (.int .i64 (wrap64 (ex + 1))) = w2 := ⟨_, rfl⟩
  have hb2 : Box w2 p room (at_ + 1) (wrap64 (ex + 1)) l (.slice (some ⟨g, off, none⟩) l.length cap) := by
    subst hw2
    refine ⟨?_, ?_⟩
    · rw [blk_set (blk_set (w := w.drewN nq) hb.blk 2 _) 3]; simp
    · exact ((hb.own.drewN nq).set_other _ (fun k hk => by simp [Value.ownBlock] at hk; subst hk; exact hne)).set_other _ (fun k hk => by simp [Value.ownBlock] at hk; subst hk; exact hne)
  have hf2 : Fr (bf p (.slice (some ⟨g, off, none⟩) l.length cap)) w w2 := by
    subst hw2
    exact (((Fr.refl _ _).drewN nq).setCell (Or.inl (Or.inl rfl)) _).setCell (Or.inl (Or.inl rfl)) _
  rw [hw2]
  clear hw2 c1 c2 c3 f2 f3
  have c1 := blk_cell hb2.blk 1
  have c2 := blk_cell hb2.blk 2
  have hd := hb2.own.cell at_ (by omega)
  rw [List.getElem?_map, hm] at hd
  simp at c1 c2 hd
  clear hm
  have hwr : IntKind.i64.wrap ((at_ : Int) + 1 - 1) = at_ := by rw [show (at_ : Int) + 1 - 1 = at_ by omega]; exact IntWalk.i64_in _ (by omega)
  go_quiet (fail)
  go_wp2
  go_ret2
  exact ⟨rfl, BoxPost.trans hf2 (fun _ hk => .inl hk) (hb2.post ⟨_, rfl⟩)⟩

set_option maxHeartbeats 800000 in
theorem Next_none (p : Nat) (room : Int) (at_ : Nat) (ex : Int) (l : List Int) (sl : Value) (w : World) (hb : Box w p room at_ ex l sl) (hlt : l.length ≤ at_) :
    Calls Try.prog 55 #[.pointer (some ⟨p, 0, none⟩)] w fun e w' => e = .returned (.tuple #[.int .u64 0, .bool false]) ∧ BoxPost p room at_ ex l sl w w' := by
  obtain ⟨ao, cap, rfl, hcap, hmax⟩ := hb.own.shape
  have hp := blk_lt hb.blk
  have c1 := blk_cell hb.blk 1
  have c2 := blk_cell hb.blk 2
  simp at c1 c2
  unfold maxLen at hmax
  go_enter Try.func55, Try.ntmps55
  go_wp2_with fail
  go_quiet (fail)
  go_wp2
  go_ret2
  exact ⟨rfl, hb.post ⟨_, rfl⟩⟩

/-! ### Stop, Wait -/
theorem Box.set {w : World} {p : Nat} {room : Int} {at_ : Nat} {ex : Int} {l : List Int} {sl : Value} (hb : Box w p room at_ ex l sl) (n : Nat) : Box (w.setCell ⟨p, 2, none⟩ (.int .i64 n)) p room n ex l sl :=
  ⟨by rw [blk_set hb.blk 2]; simp, hb.own.set_other _ (hb.own.ne hb.blk (by decide))⟩

theorem Stop_any (p : Nat) (room : Int) (at_ : Nat) (ex : Int) (l : List Int) (sl : Value) (w : World) (hb : Box w p room at_ ex l sl) :
    Calls Try.prog 38 #[.pointer (some ⟨p, 0, none⟩)] w fun e w' => e = .returned (.tuple #[]) ∧ BoxPost p room 0 ex l sl w w' := by
  have hp := blk_lt hb.blk
  have c2 := blk_cell hb.blk 2
  have f2 := blk_free hb.blk 2
  simp at c2
  go_enter Try.func38, Try.ntmps38
  go_wp2
  go_end0
  exact ⟨rfl, BoxPost.trans ((Fr.refl _ _).setCell (Or.inl (Or.inl rfl)) _) (fun _ hk => .inl hk) ((hb.set 0).post ⟨0, rfl⟩)⟩

theorem Wait_any (p : Nat) (room : Int) (at_ : Nat) (ex : Int) (l : List Int) (sl : Value) (w : World) (hb : Box w p room at_ ex l sl) :
    Calls Try.prog 36 #[.pointer (some ⟨p, 0, none⟩)] w fun e w' => e = .returned (.tuple #[]) ∧ BoxPost p room 0 ex l sl w w' := by
  go_enter Try.func36, Try.ntmps36
  go_wp2_with (go_at_call 38; refine (Stop_any p room at_ ex l _ _ hb).mono ?_; rintro e w1 ⟨rfl, hpost⟩)
  go_end0
  exact ⟨rfl, hpost⟩

/-! ### Len, Examined -/
theorem Len_any (p : Nat) (room : Int) (at_ : Nat) (ex : Int) (l : List Int) (sl : Value) (w : World) (hb : Box w p room at_ ex l sl) :
    Calls Try.prog 40 #[.pointer (some ⟨p, 0, none⟩)] w fun e w' => e = .returned (.int .i64 l.length) ∧ w = w' := by
  obtain ⟨ao, cap, rfl, hcap, hmax⟩ := hb.own.shape
  have hp := blk_lt hb.blk
  have c1 := blk_cell hb.blk 1
  simp at c1
  go_enter Try.func40, Try.ntmps40
  go_wp2
  go_ret
  exact ⟨rfl, rfl⟩

theorem Examined_any (p : Nat) (room : Int) (at_ : Nat) (ex : Int) (l : List Int) (sl : Value) (w : World) (hb : Box w p room at_ ex l sl) :
    Calls Try.prog 39 #[.pointer (some ⟨p, 0, none⟩)] w fun e w' => e = .returned (.int .i64 ex) ∧ w = w' := by
  have hp := blk_lt hb.blk
  have c3 := blk_cell hb.blk 3
  simp at c3
  go_enter Try.func39, Try.ntmps39
  go_wp2
  go_ret
  exact ⟨rfl, rfl⟩

/-- slices.Clone: a new slice with the same elements. -/
theorem Clone_any (v : Value) (n : Nat) (l : List Int) (w : World) (h : Rd w 1 v n (u64s l)) (hn : n ≤ 1000) :
    Calls Try.prog 59 #[v] w fun e w' => ∃ v', e = .returned v' ∧ Sl w' 26 1 v' n (u64s l) ∧ Fr (fun _ => False) w w' ∧ ∀ k, v'.ownBlock = some k → w.heap.size ≤ k := by
  obtain ⟨i0, hinf, hz0, hz1, hz2⟩ := info_parts Try.info26
  obtain ⟨ao, cap, rfl, h0, h2, h3, h4, h5⟩ := id h
  have hnil := fun (w : World) (a : Option Addr) (n c n' c' : Nat) => Lib.run_eql_slice_nil (P := Try.prog) w 22 26 a n c n' c' Try.underlying22
  cases ao with
  | none =>
    obtain rfl := h4 rfl
    obtain rfl : n = 0 := by omega
    have hx : u64s l = [] := List.eq_nil_of_length_eq_zero (by simpa using h0)
    rw [hx]
    clear h h0 h5 hx
    go_enter Try.func59, Try.ntmps59
    go_wp2
    go_ret
    exact ⟨_, rfl, Sl.nil _ _ _, Fr.refl _ _, by simp [Value.ownBlock]⟩
  | some a =>
    clear h0 h4 h5
    go_enter Try.func59, Try.ntmps59
    go_wp2_with (at_builtin; go_loud (refine wpList_append_sl_rd rfl (.tmp 5) (.tmp 6) 22 rfl 26 i0 (.int .u64 0) 1 8 Try.underlying22 hinf hz0 hz1 hz2 rfl (by decide) (.slice (some ⟨w.heap.size, 0, none⟩) 0 0) 0 [] rfl ?own _ n (u64s l) rfl (h.below (Nat.le_refl _) ((Below.refl _ _).alloc (Nat.le_refl _) _)) (u64s_one l) ?b1 ?b2 ?next))
    case own => exact ⟨_, 0, rfl, by simp, by omega, by unfold maxLen; omega, .inr ⟨w.heap.size, 0, #[], rfl, heap_alloc_new w _, by simp, by simp⟩⟩
    case b1 => unfold maxLen; omega
    case b2 => omega
    case next =>
      intro v' w1 hs hf hv
      go_wp2
      go_ret
      have hf' : Fr (fun _ => False) w w1 := ((Fr.refl (fun _ => False) w).alloc (.cells #[] 26)).trans' hf (fun i hi => by simp [Value.ownBlock] at hi; exact .inr (by omega))
      refine ⟨v', rfl, by simpa using hs, hf', fun k hk => ?_⟩
      rcases hv with hv | hv
      · rw [hv] at hk; simp [Value.ownBlock] at hk; omega
      · rw [hv] at hk; simp at hk; omega


end Go.Proofs.Ytgijaehmffojhaa.Plain
