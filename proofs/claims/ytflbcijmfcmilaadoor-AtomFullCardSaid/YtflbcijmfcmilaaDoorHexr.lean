/- What stands behind a backslash and an x. -/
import Derived.Test.YtflbcijmfcmilaaDoorDigits
import Derived.Test.YtflbcijmfcmilaaDoorSeq
import Derived.Deep.RegionWith
import Derived.Deep.CutBlock
import Derived.Deep.DeepCutAuto
import Derived.StillTailTactics
namespace Go.Proofs.YtflbcijmfcmilaaDoor
open Go.RowKit

theorem wanted_at {ops : Array Oper} {tmps : Array Value} {o : Oper} (j : Nat) (b : Bool) (d : Nat) (h1 : o.guard = some (j, b)) (h2 : ops[j]?.bind (·.dst) = some d) (h3 : tmps[d]? = some (.bool b)) :
    Region.wanted o (yielded ops tmps) = true := by
  unfold Region.wanted yielded
  rw [h1]
  simp [h2, h3]

theorem unwanted_at {ops : Array Oper} {tmps : Array Value} {o : Oper} (j : Nat) (b : Bool) (d : Nat) (h1 : o.guard = some (j, b)) (h2 : ops[j]?.bind (·.dst) = some d) (h3 : tmps[d]? = some (.bool (!b))) :
    Region.wanted o (yielded ops tmps) = false := by
  unfold Region.wanted yielded
  rw [h1]
  cases b <;> simp [h2, h3]

theorem seqH_nil {P : Program} {ops : Array Oper} {Q : Exit → Act → World → Prop} {S : World → Prop} {a : Act} {w : World} (h : Q .normal a w) : wpSeqH P ops Q S [] a w := h

/-- What a reading method leaves: it says no, or the number that is read and how many bytes. -/
def EPost (b : Nat) (s : ByteArray) (pos : Nat) (bs : List Value) (bad : Bool) (o : Option (Nat × Nat)) (w : World) (e : Ending) (w' : World) : Prop :=
  Below b w w' ∧ match o with
    | none => e = .returned (.bool false)
    | some (v, j) => e = .returned (.bool true) ∧ pos + j ≤ s.size ∧ Rdr b s (pos + j) (if okRune v then bs ++ Lib.runeCells v else bs) (if okRune v then bad else true) w'

/-- Behind the x. -/
def hexO (l : List UInt8) : Option (Nat × Nat) :=
  match l with
  | 123 :: u => if (readNum 16 u.length u 0).2 = 0 then none else if u[(readNum 16 u.length u 0).2]? = some 125 then some ((readNum 16 u.length u 0).1, (readNum 16 u.length u 0).2 + 2) else none
  | _ => if (readNum 16 2 l 0).2 = 2 then some ((readNum 16 2 l 0).1, 2) else none

set_option maxHeartbeats 6400000 in
set_option maxRecDepth 100000 in
theorem hexr_brace (b : Nat) (s : ByteArray) (pos : Nat) (bs : List Value) (bad : Bool) (hs : s.size ≤ maxLen) (hp : pos < s.size) (hc : s[pos] = 123) (w : World) (h : Rdr b s pos bs bad w) (hlen : bs.length + 4 ≤ 140737488355328) :
    Calls Tryd.prog 72 #[.pointer (some ⟨b, 0, none⟩)] w (EPost b s pos bs bad (hexO (s.data.toList.drop pos)) w) := by
  have hs' := hs
  unfold maxLen at hs'
  obtain ⟨r, j, hrj⟩ : ∃ r j, readNum 16 s.size (s.data.toList.drop (pos + 1)) 0 = (r, j) := ⟨_, _, rfl⟩
  have hd := drop_at hp
  have hl : (s.data.toList.drop (pos + 1)).length ≤ s.size := by simp
  have hrl : readNum 16 (s.data.toList.drop (pos + 1)).length (s.data.toList.drop (pos + 1)) 0 = (r, j) := by rw [← readNum_most _ _ _ _ hl]; exact hrj
  have hjl : pos + 1 + j ≤ s.size := by
    have := (readNum_le 16 s.size (s.data.toList.drop (pos + 1)) 0).2
    rw [hrj, List.length_drop] at this
    have hl : s.data.toList.length = s.size := by simp
    simp only at this
    omega
  have hO : hexO (s.data.toList.drop pos) = if j = 0 then none else if s.data.toList[pos + 1 + j]? = some 125 then some (r, j + 2) else none := by
    rw [hd, hc]
    unfold hexO
    simp only [hrl, List.getElem?_drop]
  have HO := Lib.hid hO
  have HD : Hid (∀ w', Rdr b s (pos + 1) bs bad w' → Calls Tryd.prog 74 #[.pointer (some ⟨b, 0, none⟩), .int .i64 16, .int .i64 1, .int .i64 s.size] w' (DPost b s (pos + 1) bs bad 1 r j w')) := Lib.hid fun w' h' => digits_any b s (pos + 1) bs bad 16 1 s.size r j (.inr rfl) (by omega) hs hs (by omega) w' h' hlen hrj
  have c0 := h.c0
  have c1 := h.c1
  have f1 := h.free 1
  have hcz : ((s[pos]'hp).toNat : Int) = 123 := by rw [hc]; rfl
  have HR1 : Hid (∀ q, Rdr b s (pos + 1) bs bad ((w.drewN q).setCell ⟨b, 1, none⟩ (.int .i64 ((pos : Int) + 1)))) := Lib.hid fun q => by
    have := (h.drewN q).setPos (pos + 1)
    rwa [show (((pos + 1 : Nat) : Int)) = (pos : Int) + 1 by omega] at this
  have HB1 : Hid (∀ q, Below b w ((w.drewN q).setCell ⟨b, 1, none⟩ (.int .i64 ((pos : Int) + 1)))) := Lib.hid fun q => (bel_drewN (Below.refl b w) q).setCell (p := ⟨b, 1, none⟩) (Nat.le_refl _) _
  have hkm : decide (pos < s.size) = true := by simp; omega
  clear hrj hd hl hrl hO hc hs h
  go_enter Tryd.func72, Tryd.ntmps72
  go_wp2_with fail
  go_quiet (fail)
  go_upto_region 3 with fail
  have hr1 := HR1.out nq
  have hb1 := HB1.out nq
  generalize (w.drewN nq).setCell ⟨b, 1, none⟩ (.int .i64 ((pos : Int) + 1)) = w1 at hr1 hb1 ⊢
  clear c0 c1 f1 HR1 HB1
  have c0 := hr1.c0
  have c1 := hr1.c1
  go_cut [63] (fun s63 wx => Below b w wx ∧ ((s63 = .bool true ∧ Hid (hexO (s.data.toList.drop pos) = none)) ∨ (s63 = .bool false ∧ Hid (hexO (s.data.toList.drop pos) = some (r, j + 2)) ∧ pos + 1 + j < s.size ∧ Rdr b s (pos + 1 + j) (if okRune r then bs ++ Lib.runeCells r else bs) (if okRune r then bad else true) wx)))
  case first =>
    by_cases hj : 1 ≤ j
    · have HDJ : Hid (decide (1 ≤ j) = true) := Lib.hid (by simpa using hj)
      have hw1 : Rdr b s (pos + 1) bs bad w1.drew := hr1.drewN 1
      have d0 := hw1.c0
      refine wp_region_seq [(0, true), (1, true), (2, true), (3, true), (4, false), (5, true), (6, false), (7, true), (8, true)]
        [(9, true), (10, true), (11, true), (12, true), (13, true), (14, true), (15, true), (16, true), (17, true), (18, true), (19, true), (20, true), (21, true), (22, true), (23, true), (24, true), (25, true), (26, true), (27, true), (28, true), (29, true), (30, true), (31, true)]
        Tryd.lays169.mixed (by kernel_rfl) (by kernel_rfl) (fun c a d v w h => by cases d <;> exact h) ?_
      refine seqP_take (o := ⟨some 32, _, _, _, _, none⟩) _ rfl (by rfl) (fun w => by (go_simp; with_reducible rfl)) ?_
      simp only [Act.put, List.setIfInBounds_toArray, List.set_cons_zero, List.set_cons_succ]
      refine seqP_take (o := ⟨some 33, _, _, _, _, none⟩) _ rfl (by rfl) (fun w => by (go_simp; with_reducible rfl)) ?_
      simp only [Act.put, List.setIfInBounds_toArray, List.set_cons_zero, List.set_cons_succ]
      refine seqP_take (o := ⟨some 34, _, _, _, _, none⟩) _ rfl (by rfl) (fun w => by (go_simp; with_reducible rfl)) ?_
      simp only [Act.put, List.setIfInBounds_toArray, List.set_cons_zero, List.set_cons_succ]
      refine seqP_take (o := ⟨some 35, _, _, _, _, none⟩) _ rfl (by rfl) (fun w => by (go_simp; with_reducible rfl)) ?_
      simp only [Act.put, List.setIfInBounds_toArray, List.set_cons_zero, List.set_cons_succ]
      refine seqP_call (o := ⟨some 36, _, _, _, _, none⟩) rfl (by rfl) (fun K hK => ?_)
      go_simp
      refine hK _ _ ?_
      clear hK K
      refine seqP_take (o := ⟨some 37, _, _, _, _, none⟩) _ rfl (by rfl) (fun w => by (go_simp; with_reducible rfl)) ?_
      simp only [Act.put, List.setIfInBounds_toArray, List.set_cons_zero, List.set_cons_succ]
      refine seqP_call (o := ⟨some 38, _, _, _, _, none⟩) rfl (by rfl) (fun K hK => ?_)
      go_simp
      refine (HD.out _ hw1).mono ?_
      rintro e w2 ⟨rfl, hpj, hb2, hp2⟩
      rw [HDJ.out]
      have HP2 := Lib.hid hp2
      clear hp2
      refine hK _ _ ?_
      clear hK K
      refine seqP_take (o := ⟨some 39, _, _, _, _, none⟩) _ rfl (by rfl) (fun w => by (go_simp; with_reducible rfl)) ?_
      simp only [Act.put, List.setIfInBounds_toArray, List.set_cons_zero, List.set_cons_succ]
      refine seqP_take (o := ⟨some 40, _, _, _, _, none⟩) _ rfl (by rfl) (fun w => by (go_simp; with_reducible rfl)) ?_
      simp only [Act.put, List.setIfInBounds_toArray, List.set_cons_zero, List.set_cons_succ]
      obtain ⟨hr3, hb3⟩ := HP2.out hj
      have c0' := hr3.c0
      have c1' := hr3.c1
      have hbw2 : Below b w w2 := hb1.trans ((Below.drew (Below.refl b w1)).trans hb3)
      refine seqP_held (fun W => W.cell? ⟨b, 0, none⟩ = some (.string s) ∧ W.cell? ⟨b, 1, none⟩ = some (.int .i64 ((pos + 1 + j : Nat) : Int))) ⟨c0', c1'⟩ ?_
      clear c0' c1' hw1 d0 c0 c1 HD hb3
      by_cases hlt : pos + 1 + j < s.size
      · have hltb : decide ((s.size : Int) ≤ (pos : Int) + 1 + (j : Int)) = false := by simp; omega
        have hi0 : 0 ≤ (pos : Int) + 1 + (j : Int) := by omega
        have hi1 : (pos : Int) + 1 + (j : Int) < (s.size : Int) := by omega
        have hi2 : ((pos : Int) + 1 + (j : Int)).toNat = pos + 1 + j := by omega
        have hget : s.data.toList[pos + 1 + j]? = some (s[pos + 1 + j]'hlt) := Lib.data_getElem? s _ hlt
        by_cases hc5 : s[pos + 1 + j]'hlt = 125
        · have hcz5 : ((s[pos + 1 + j]'hlt).toNat : Int) = 125 := by rw [hc5]; rfl
          have HOUT : Hid (hexO (s.data.toList.drop pos) = some (r, j + 2)) := Lib.hid (by
            rw [HO.out, if_neg (by omega), hget, hc5, if_pos rfl])
          clear hget hc5
          refine seqH_take (o := ⟨some 41, _, _, _, _, some (8, false)⟩) _ rfl (wanted_at 8 false 40 rfl rfl rfl) (fun W hW => by (obtain ⟨e1, e2⟩ := hW; go_simp; with_reducible rfl)) ?_
          simp only [Act.put, List.setIfInBounds_toArray, List.set_cons_zero, List.set_cons_succ]
          refine seqH_take (o := ⟨some 42, _, _, _, _, some (8, false)⟩) _ rfl (wanted_at 8 false 40 rfl rfl rfl) (fun W hW => by (obtain ⟨e1, e2⟩ := hW; go_simp; with_reducible rfl)) ?_
          simp only [Act.put, List.setIfInBounds_toArray, List.set_cons_zero, List.set_cons_succ]
          refine seqH_take (o := ⟨some 43, _, _, _, _, some (8, false)⟩) _ rfl (wanted_at 8 false 40 rfl rfl rfl) (fun W hW => by (obtain ⟨e1, e2⟩ := hW; go_simp; with_reducible rfl)) ?_
          simp only [Act.put, List.setIfInBounds_toArray, List.set_cons_zero, List.set_cons_succ]
          refine seqH_take (o := ⟨some 44, _, _, _, _, some (8, false)⟩) _ rfl (wanted_at 8 false 40 rfl rfl rfl) (fun W hW => by (obtain ⟨e1, e2⟩ := hW; go_simp; with_reducible rfl)) ?_
          simp only [Act.put, List.setIfInBounds_toArray, List.set_cons_zero, List.set_cons_succ]
          refine seqH_take (o := ⟨some 45, _, _, _, _, some (8, false)⟩) _ rfl (wanted_at 8 false 40 rfl rfl rfl) (fun W hW => by (obtain ⟨e1, e2⟩ := hW; go_simp; with_reducible rfl)) ?_
          simp only [Act.put, List.setIfInBounds_toArray, List.set_cons_zero, List.set_cons_succ]
          refine seqH_take (o := ⟨some 46, _, _, _, _, some (8, false)⟩) _ rfl (wanted_at 8 false 40 rfl rfl rfl) (fun W hW => by (obtain ⟨e1, e2⟩ := hW; go_simp; with_reducible rfl)) ?_
          simp only [Act.put, List.setIfInBounds_toArray, List.set_cons_zero, List.set_cons_succ]
          refine seqH_take (o := ⟨some 47, _, _, _, _, some (8, false)⟩) _ rfl (wanted_at 8 false 40 rfl rfl rfl) (fun W hW => by (obtain ⟨e1, e2⟩ := hW; go_simp; with_reducible rfl)) ?_
          simp only [Act.put, List.setIfInBounds_toArray, List.set_cons_zero, List.set_cons_succ]
          refine seqH_take (o := ⟨some 48, _, _, _, _, some (8, false)⟩) _ rfl (wanted_at 8 false 40 rfl rfl rfl) (fun W hW => by (obtain ⟨e1, e2⟩ := hW; go_simp; with_reducible rfl)) ?_
          simp only [Act.put, List.setIfInBounds_toArray, List.set_cons_zero, List.set_cons_succ]
          refine seqH_take (o := ⟨some 49, _, _, _, _, some (8, false)⟩) _ rfl (wanted_at 8 false 40 rfl rfl rfl) (fun W hW => by (obtain ⟨e1, e2⟩ := hW; go_simp; with_reducible rfl)) ?_
          simp only [Act.put, List.setIfInBounds_toArray, List.set_cons_zero, List.set_cons_succ]
          refine seqH_take (o := ⟨some 50, _, _, _, _, some (8, false)⟩) _ rfl (wanted_at 8 false 40 rfl rfl rfl) (fun W hW => by (obtain ⟨e1, e2⟩ := hW; go_simp; with_reducible rfl)) ?_
          simp only [Act.put, List.setIfInBounds_toArray, List.set_cons_zero, List.set_cons_succ]
          refine seqH_take (o := ⟨some 51, _, _, _, _, none⟩) _ rfl (by rfl) (fun W hW => by (obtain ⟨e1, e2⟩ := hW; go_simp; with_reducible rfl)) ?_
          simp only [Act.put, List.setIfInBounds_toArray, List.set_cons_zero, List.set_cons_succ]
          refine seqH_take (o := ⟨some 52, _, _, _, _, none⟩) _ rfl (by rfl) (fun W hW => by (obtain ⟨e1, e2⟩ := hW; go_simp; with_reducible rfl)) ?_
          simp only [Act.put, List.setIfInBounds_toArray, List.set_cons_zero, List.set_cons_succ]
          refine seqH_take (o := ⟨some 53, _, _, _, _, some (20, false)⟩) _ rfl (wanted_at 20 false 52 rfl rfl rfl) (fun W hW => by (obtain ⟨e1, e2⟩ := hW; go_simp; with_reducible rfl)) ?_
          simp only [Act.put, List.setIfInBounds_toArray, List.set_cons_zero, List.set_cons_succ]
          refine seqH_take (o := ⟨some 54, _, _, _, _, some (20, false)⟩) _ rfl (wanted_at 20 false 52 rfl rfl rfl) (fun W hW => by (obtain ⟨e1, e2⟩ := hW; go_simp; with_reducible rfl)) ?_
          simp only [Act.put, List.setIfInBounds_toArray, List.set_cons_zero, List.set_cons_succ]
          refine seqH_take (o := ⟨some 55, _, _, _, _, some (20, false)⟩) _ rfl (wanted_at 20 false 52 rfl rfl rfl) (fun W hW => by (obtain ⟨e1, e2⟩ := hW; go_simp; with_reducible rfl)) ?_
          simp only [Act.put, List.setIfInBounds_toArray, List.set_cons_zero, List.set_cons_succ]
          refine seqH_take (o := ⟨some 56, _, _, _, _, some (20, false)⟩) _ rfl (wanted_at 20 false 52 rfl rfl rfl) (fun W hW => by (obtain ⟨e1, e2⟩ := hW; go_simp; with_reducible rfl)) ?_
          simp only [Act.put, List.setIfInBounds_toArray, List.set_cons_zero, List.set_cons_succ]
          refine seqH_take (o := ⟨some 57, _, _, _, _, some (20, false)⟩) _ rfl (wanted_at 20 false 52 rfl rfl rfl) (fun W hW => by (obtain ⟨e1, e2⟩ := hW; go_simp; with_reducible rfl)) ?_
          simp only [Act.put, List.setIfInBounds_toArray, List.set_cons_zero, List.set_cons_succ]
          refine seqH_take (o := ⟨some 58, _, _, _, _, some (20, false)⟩) _ rfl (wanted_at 20 false 52 rfl rfl rfl) (fun W hW => by (obtain ⟨e1, e2⟩ := hW; go_simp; with_reducible rfl)) ?_
          simp only [Act.put, List.setIfInBounds_toArray, List.set_cons_zero, List.set_cons_succ]
          refine seqH_take (o := ⟨some 59, _, _, _, _, some (20, false)⟩) _ rfl (wanted_at 20 false 52 rfl rfl rfl) (fun W hW => by (obtain ⟨e1, e2⟩ := hW; go_simp; with_reducible rfl)) ?_
          simp only [Act.put, List.setIfInBounds_toArray, List.set_cons_zero, List.set_cons_succ]
          refine seqH_take (o := ⟨some 60, _, _, _, _, some (20, false)⟩) _ rfl (wanted_at 20 false 52 rfl rfl rfl) (fun W hW => by (obtain ⟨e1, e2⟩ := hW; go_simp; with_reducible rfl)) ?_
          simp only [Act.put, List.setIfInBounds_toArray, List.set_cons_zero, List.set_cons_succ]
          refine seqH_take (o := ⟨some 61, _, _, _, _, some (20, false)⟩) _ rfl (wanted_at 20 false 52 rfl rfl rfl) (fun W hW => by (obtain ⟨e1, e2⟩ := hW; go_simp; with_reducible rfl)) ?_
          simp only [Act.put, List.setIfInBounds_toArray, List.set_cons_zero, List.set_cons_succ]
          refine seqH_take (o := ⟨some 62, _, _, _, _, some (20, false)⟩) _ rfl (wanted_at 20 false 52 rfl rfl rfl) (fun W hW => by (obtain ⟨e1, e2⟩ := hW; go_simp; with_reducible rfl)) ?_
          simp only [Act.put, List.setIfInBounds_toArray, List.set_cons_zero, List.set_cons_succ]
          refine seqH_take (o := ⟨some 63, _, _, _, _, none⟩) _ rfl (by rfl) (fun W hW => by (obtain ⟨e1, e2⟩ := hW; go_simp; with_reducible rfl)) ?_
          simp only [Act.put, List.setIfInBounds_toArray, List.set_cons_zero, List.set_cons_succ]
          refine seqH_nil ?_
          go_wp2_with fail
          go_meet
          case rel => exact ⟨hbw2, .inr ⟨rfl, HOUT, hlt, hr3⟩⟩
        · have hcz5 : (((s[pos + 1 + j]'hlt).toNat : Int) != 125) = true := by
            simp
            intro h
            exact hc5 (UInt8.toNat.inj (by rw [show (s[pos + 1 + j]'hlt).toNat = 125 by omega]; rfl))
          have HOUT : Hid (hexO (s.data.toList.drop pos) = none) := Lib.hid (by
            rw [HO.out, if_neg (by omega), hget, if_neg (by intro h; exact hc5 (Option.some.inj h))])
          clear hget hc5
          refine seqH_take (o := ⟨some 41, _, _, _, _, some (8, false)⟩) _ rfl (wanted_at 8 false 40 rfl rfl rfl) (fun W hW => by (obtain ⟨e1, e2⟩ := hW; go_simp; with_reducible rfl)) ?_
          simp only [Act.put, List.setIfInBounds_toArray, List.set_cons_zero, List.set_cons_succ]
          refine seqH_take (o := ⟨some 42, _, _, _, _, some (8, false)⟩) _ rfl (wanted_at 8 false 40 rfl rfl rfl) (fun W hW => by (obtain ⟨e1, e2⟩ := hW; go_simp; with_reducible rfl)) ?_
          simp only [Act.put, List.setIfInBounds_toArray, List.set_cons_zero, List.set_cons_succ]
          refine seqH_take (o := ⟨some 43, _, _, _, _, some (8, false)⟩) _ rfl (wanted_at 8 false 40 rfl rfl rfl) (fun W hW => by (obtain ⟨e1, e2⟩ := hW; go_simp; with_reducible rfl)) ?_
          simp only [Act.put, List.setIfInBounds_toArray, List.set_cons_zero, List.set_cons_succ]
          refine seqH_take (o := ⟨some 44, _, _, _, _, some (8, false)⟩) _ rfl (wanted_at 8 false 40 rfl rfl rfl) (fun W hW => by (obtain ⟨e1, e2⟩ := hW; go_simp; with_reducible rfl)) ?_
          simp only [Act.put, List.setIfInBounds_toArray, List.set_cons_zero, List.set_cons_succ]
          refine seqH_take (o := ⟨some 45, _, _, _, _, some (8, false)⟩) _ rfl (wanted_at 8 false 40 rfl rfl rfl) (fun W hW => by (obtain ⟨e1, e2⟩ := hW; go_simp; with_reducible rfl)) ?_
          simp only [Act.put, List.setIfInBounds_toArray, List.set_cons_zero, List.set_cons_succ]
          refine seqH_take (o := ⟨some 46, _, _, _, _, some (8, false)⟩) _ rfl (wanted_at 8 false 40 rfl rfl rfl) (fun W hW => by (obtain ⟨e1, e2⟩ := hW; go_simp; with_reducible rfl)) ?_
          simp only [Act.put, List.setIfInBounds_toArray, List.set_cons_zero, List.set_cons_succ]
          refine seqH_take (o := ⟨some 47, _, _, _, _, some (8, false)⟩) _ rfl (wanted_at 8 false 40 rfl rfl rfl) (fun W hW => by (obtain ⟨e1, e2⟩ := hW; go_simp; with_reducible rfl)) ?_
          simp only [Act.put, List.setIfInBounds_toArray, List.set_cons_zero, List.set_cons_succ]
          refine seqH_take (o := ⟨some 48, _, _, _, _, some (8, false)⟩) _ rfl (wanted_at 8 false 40 rfl rfl rfl) (fun W hW => by (obtain ⟨e1, e2⟩ := hW; go_simp; with_reducible rfl)) ?_
          simp only [Act.put, List.setIfInBounds_toArray, List.set_cons_zero, List.set_cons_succ]
          refine seqH_take (o := ⟨some 49, _, _, _, _, some (8, false)⟩) _ rfl (wanted_at 8 false 40 rfl rfl rfl) (fun W hW => by (obtain ⟨e1, e2⟩ := hW; go_simp; with_reducible rfl)) ?_
          simp only [Act.put, List.setIfInBounds_toArray, List.set_cons_zero, List.set_cons_succ]
          refine seqH_take (o := ⟨some 50, _, _, _, _, some (8, false)⟩) _ rfl (wanted_at 8 false 40 rfl rfl rfl) (fun W hW => by (obtain ⟨e1, e2⟩ := hW; go_simp; with_reducible rfl)) ?_
          simp only [Act.put, List.setIfInBounds_toArray, List.set_cons_zero, List.set_cons_succ]
          refine seqH_take (o := ⟨some 51, _, _, _, _, none⟩) _ rfl (by rfl) (fun W hW => by (obtain ⟨e1, e2⟩ := hW; go_simp; with_reducible rfl)) ?_
          simp only [Act.put, List.setIfInBounds_toArray, List.set_cons_zero, List.set_cons_succ]
          refine seqH_take (o := ⟨some 52, _, _, _, _, none⟩) _ rfl (by rfl) (fun W hW => by (obtain ⟨e1, e2⟩ := hW; go_simp; with_reducible rfl)) ?_
          simp only [Act.put, List.setIfInBounds_toArray, List.set_cons_zero, List.set_cons_succ]
          refine seqH_take (o := ⟨some 53, _, _, _, _, some (20, false)⟩) _ rfl (wanted_at 20 false 52 rfl rfl rfl) (fun W hW => by (obtain ⟨e1, e2⟩ := hW; go_simp; with_reducible rfl)) ?_
          simp only [Act.put, List.setIfInBounds_toArray, List.set_cons_zero, List.set_cons_succ]
          refine seqH_take (o := ⟨some 54, _, _, _, _, some (20, false)⟩) _ rfl (wanted_at 20 false 52 rfl rfl rfl) (fun W hW => by (obtain ⟨e1, e2⟩ := hW; go_simp; with_reducible rfl)) ?_
          simp only [Act.put, List.setIfInBounds_toArray, List.set_cons_zero, List.set_cons_succ]
          refine seqH_take (o := ⟨some 55, _, _, _, _, some (20, false)⟩) _ rfl (wanted_at 20 false 52 rfl rfl rfl) (fun W hW => by (obtain ⟨e1, e2⟩ := hW; go_simp; with_reducible rfl)) ?_
          simp only [Act.put, List.setIfInBounds_toArray, List.set_cons_zero, List.set_cons_succ]
          refine seqH_take (o := ⟨some 56, _, _, _, _, some (20, false)⟩) _ rfl (wanted_at 20 false 52 rfl rfl rfl) (fun W hW => by (obtain ⟨e1, e2⟩ := hW; go_simp; with_reducible rfl)) ?_
          simp only [Act.put, List.setIfInBounds_toArray, List.set_cons_zero, List.set_cons_succ]
          refine seqH_take (o := ⟨some 57, _, _, _, _, some (20, false)⟩) _ rfl (wanted_at 20 false 52 rfl rfl rfl) (fun W hW => by (obtain ⟨e1, e2⟩ := hW; go_simp; with_reducible rfl)) ?_
          simp only [Act.put, List.setIfInBounds_toArray, List.set_cons_zero, List.set_cons_succ]
          refine seqH_take (o := ⟨some 58, _, _, _, _, some (20, false)⟩) _ rfl (wanted_at 20 false 52 rfl rfl rfl) (fun W hW => by (obtain ⟨e1, e2⟩ := hW; go_simp; with_reducible rfl)) ?_
          simp only [Act.put, List.setIfInBounds_toArray, List.set_cons_zero, List.set_cons_succ]
          refine seqH_take (o := ⟨some 59, _, _, _, _, some (20, false)⟩) _ rfl (wanted_at 20 false 52 rfl rfl rfl) (fun W hW => by (obtain ⟨e1, e2⟩ := hW; go_simp; with_reducible rfl)) ?_
          simp only [Act.put, List.setIfInBounds_toArray, List.set_cons_zero, List.set_cons_succ]
          refine seqH_take (o := ⟨some 60, _, _, _, _, some (20, false)⟩) _ rfl (wanted_at 20 false 52 rfl rfl rfl) (fun W hW => by (obtain ⟨e1, e2⟩ := hW; go_simp; with_reducible rfl)) ?_
          simp only [Act.put, List.setIfInBounds_toArray, List.set_cons_zero, List.set_cons_succ]
          refine seqH_take (o := ⟨some 61, _, _, _, _, some (20, false)⟩) _ rfl (wanted_at 20 false 52 rfl rfl rfl) (fun W hW => by (obtain ⟨e1, e2⟩ := hW; go_simp; with_reducible rfl)) ?_
          simp only [Act.put, List.setIfInBounds_toArray, List.set_cons_zero, List.set_cons_succ]
          refine seqH_take (o := ⟨some 62, _, _, _, _, some (20, false)⟩) _ rfl (wanted_at 20 false 52 rfl rfl rfl) (fun W hW => by (obtain ⟨e1, e2⟩ := hW; go_simp; with_reducible rfl)) ?_
          simp only [Act.put, List.setIfInBounds_toArray, List.set_cons_zero, List.set_cons_succ]
          refine seqH_take (o := ⟨some 63, _, _, _, _, none⟩) _ rfl (by rfl) (fun W hW => by (obtain ⟨e1, e2⟩ := hW; go_simp; with_reducible rfl)) ?_
          simp only [Act.put, List.setIfInBounds_toArray, List.set_cons_zero, List.set_cons_succ]
          refine seqH_nil ?_
          go_wp2_with fail
          go_meet
          case rel => exact ⟨hbw2, .inl ⟨rfl, HOUT⟩⟩
      · have hltb : decide ((s.size : Int) ≤ (pos : Int) + 1 + (j : Int)) = true := by simp; omega
        have HOUT : Hid (hexO (s.data.toList.drop pos) = none) := Lib.hid (by
          rw [HO.out, if_neg (by omega), List.getElem?_eq_none (by simp; omega), if_neg (by simp)])
        refine seqH_take (o := ⟨some 41, _, _, _, _, some (8, false)⟩) _ rfl (wanted_at 8 false 40 rfl rfl rfl) (fun W hW => by (obtain ⟨e1, e2⟩ := hW; go_simp; with_reducible rfl)) ?_
        simp only [Act.put, List.setIfInBounds_toArray, List.set_cons_zero, List.set_cons_succ]
        refine seqH_take (o := ⟨some 42, _, _, _, _, some (8, false)⟩) _ rfl (wanted_at 8 false 40 rfl rfl rfl) (fun W hW => by (obtain ⟨e1, e2⟩ := hW; go_simp; with_reducible rfl)) ?_
        simp only [Act.put, List.setIfInBounds_toArray, List.set_cons_zero, List.set_cons_succ]
        refine seqH_take (o := ⟨some 43, _, _, _, _, some (8, false)⟩) _ rfl (wanted_at 8 false 40 rfl rfl rfl) (fun W hW => by (obtain ⟨e1, e2⟩ := hW; go_simp; with_reducible rfl)) ?_
        simp only [Act.put, List.setIfInBounds_toArray, List.set_cons_zero, List.set_cons_succ]
        refine seqH_take (o := ⟨some 44, _, _, _, _, some (8, false)⟩) _ rfl (wanted_at 8 false 40 rfl rfl rfl) (fun W hW => by (obtain ⟨e1, e2⟩ := hW; go_simp; with_reducible rfl)) ?_
        simp only [Act.put, List.setIfInBounds_toArray, List.set_cons_zero, List.set_cons_succ]
        refine seqH_take (o := ⟨some 45, _, _, _, _, some (8, false)⟩) _ rfl (wanted_at 8 false 40 rfl rfl rfl) (fun W hW => by (obtain ⟨e1, e2⟩ := hW; go_simp; with_reducible rfl)) ?_
        simp only [Act.put, List.setIfInBounds_toArray, List.set_cons_zero, List.set_cons_succ]
        refine seqH_take (o := ⟨some 46, _, _, _, _, some (8, false)⟩) _ rfl (wanted_at 8 false 40 rfl rfl rfl) (fun W hW => by (obtain ⟨e1, e2⟩ := hW; go_simp; with_reducible rfl)) ?_
        simp only [Act.put, List.setIfInBounds_toArray, List.set_cons_zero, List.set_cons_succ]
        refine seqH_take (o := ⟨some 47, _, _, _, _, some (8, false)⟩) _ rfl (wanted_at 8 false 40 rfl rfl rfl) (fun W hW => by (obtain ⟨e1, e2⟩ := hW; go_simp; with_reducible rfl)) ?_
        simp only [Act.put, List.setIfInBounds_toArray, List.set_cons_zero, List.set_cons_succ]
        refine seqH_take (o := ⟨some 48, _, _, _, _, some (8, false)⟩) _ rfl (wanted_at 8 false 40 rfl rfl rfl) (fun W hW => by (obtain ⟨e1, e2⟩ := hW; go_simp; with_reducible rfl)) ?_
        simp only [Act.put, List.setIfInBounds_toArray, List.set_cons_zero, List.set_cons_succ]
        refine seqH_take (o := ⟨some 49, _, _, _, _, some (8, false)⟩) _ rfl (wanted_at 8 false 40 rfl rfl rfl) (fun W hW => by (obtain ⟨e1, e2⟩ := hW; go_simp; with_reducible rfl)) ?_
        simp only [Act.put, List.setIfInBounds_toArray, List.set_cons_zero, List.set_cons_succ]
        refine seqH_take (o := ⟨some 50, _, _, _, _, some (8, false)⟩) _ rfl (wanted_at 8 false 40 rfl rfl rfl) (fun W hW => by (obtain ⟨e1, e2⟩ := hW; go_simp; with_reducible rfl)) ?_
        simp only [Act.put, List.setIfInBounds_toArray, List.set_cons_zero, List.set_cons_succ]
        refine seqH_take (o := ⟨some 51, _, _, _, _, none⟩) _ rfl (by rfl) (fun W hW => by (obtain ⟨e1, e2⟩ := hW; go_simp; with_reducible rfl)) ?_
        simp only [Act.put, List.setIfInBounds_toArray, List.set_cons_zero, List.set_cons_succ]
        refine seqH_take (o := ⟨some 52, _, _, _, _, none⟩) _ rfl (by rfl) (fun W hW => by (obtain ⟨e1, e2⟩ := hW; go_simp; with_reducible rfl)) ?_
        simp only [Act.put, List.setIfInBounds_toArray, List.set_cons_zero, List.set_cons_succ]
        refine seqH_skip (o := ⟨some 53, _, _, _, _, some (20, false)⟩) rfl (unwanted_at 20 false 52 rfl rfl rfl) ?_
        simp only [Act.put, List.setIfInBounds_toArray, List.set_cons_zero, List.set_cons_succ]
        refine seqH_skip (o := ⟨some 54, _, _, _, _, some (20, false)⟩) rfl (unwanted_at 20 false 52 rfl rfl rfl) ?_
        simp only [Act.put, List.setIfInBounds_toArray, List.set_cons_zero, List.set_cons_succ]
        refine seqH_skip (o := ⟨some 55, _, _, _, _, some (20, false)⟩) rfl (unwanted_at 20 false 52 rfl rfl rfl) ?_
        simp only [Act.put, List.setIfInBounds_toArray, List.set_cons_zero, List.set_cons_succ]
        refine seqH_skip (o := ⟨some 56, _, _, _, _, some (20, false)⟩) rfl (unwanted_at 20 false 52 rfl rfl rfl) ?_
        simp only [Act.put, List.setIfInBounds_toArray, List.set_cons_zero, List.set_cons_succ]
        refine seqH_skip (o := ⟨some 57, _, _, _, _, some (20, false)⟩) rfl (unwanted_at 20 false 52 rfl rfl rfl) ?_
        simp only [Act.put, List.setIfInBounds_toArray, List.set_cons_zero, List.set_cons_succ]
        refine seqH_skip (o := ⟨some 58, _, _, _, _, some (20, false)⟩) rfl (unwanted_at 20 false 52 rfl rfl rfl) ?_
        simp only [Act.put, List.setIfInBounds_toArray, List.set_cons_zero, List.set_cons_succ]
        refine seqH_skip (o := ⟨some 59, _, _, _, _, some (20, false)⟩) rfl (unwanted_at 20 false 52 rfl rfl rfl) ?_
        simp only [Act.put, List.setIfInBounds_toArray, List.set_cons_zero, List.set_cons_succ]
        refine seqH_skip (o := ⟨some 60, _, _, _, _, some (20, false)⟩) rfl (unwanted_at 20 false 52 rfl rfl rfl) ?_
        simp only [Act.put, List.setIfInBounds_toArray, List.set_cons_zero, List.set_cons_succ]
        refine seqH_skip (o := ⟨some 61, _, _, _, _, some (20, false)⟩) rfl (unwanted_at 20 false 52 rfl rfl rfl) ?_
        simp only [Act.put, List.setIfInBounds_toArray, List.set_cons_zero, List.set_cons_succ]
        refine seqH_skip (o := ⟨some 62, _, _, _, _, some (20, false)⟩) rfl (unwanted_at 20 false 52 rfl rfl rfl) ?_
        simp only [Act.put, List.setIfInBounds_toArray, List.set_cons_zero, List.set_cons_succ]
        refine seqH_take (o := ⟨some 63, _, _, _, _, none⟩) _ rfl (by rfl) (fun W hW => by (obtain ⟨e1, e2⟩ := hW; go_simp; with_reducible rfl)) ?_
        simp only [Act.put, List.setIfInBounds_toArray, List.set_cons_zero, List.set_cons_succ]
        refine seqH_nil ?_
        go_wp2_with fail
        go_meet
        case rel => exact ⟨hbw2, .inl ⟨rfl, HOUT⟩⟩
    · have HDJ : Hid (decide (1 ≤ j) = false) := Lib.hid (by simpa using hj)
      have hw1 : Rdr b s (pos + 1) bs bad w1.drew := hr1.drewN 1
      have d0 := hw1.c0
      refine wp_region_seq [(0, true), (1, true), (2, true), (3, true), (4, false), (5, true), (6, false), (7, true), (8, true)]
        [(9, true), (10, true), (11, true), (12, true), (13, true), (14, true), (15, true), (16, true), (17, true), (18, true), (19, true), (20, true), (21, true), (22, true), (23, true), (24, true), (25, true), (26, true), (27, true), (28, true), (29, true), (30, true), (31, true)]
        Tryd.lays169.mixed (by kernel_rfl) (by kernel_rfl) (fun c a d v w h => by cases d <;> exact h) ?_
      refine seqP_take (o := ⟨some 32, _, _, _, _, none⟩) _ rfl (by rfl) (fun w => by (go_simp; with_reducible rfl)) ?_
      simp only [Act.put, List.setIfInBounds_toArray, List.set_cons_zero, List.set_cons_succ]
      refine seqP_take (o := ⟨some 33, _, _, _, _, none⟩) _ rfl (by rfl) (fun w => by (go_simp; with_reducible rfl)) ?_
      simp only [Act.put, List.setIfInBounds_toArray, List.set_cons_zero, List.set_cons_succ]
      refine seqP_take (o := ⟨some 34, _, _, _, _, none⟩) _ rfl (by rfl) (fun w => by (go_simp; with_reducible rfl)) ?_
      simp only [Act.put, List.setIfInBounds_toArray, List.set_cons_zero, List.set_cons_succ]
      refine seqP_take (o := ⟨some 35, _, _, _, _, none⟩) _ rfl (by rfl) (fun w => by (go_simp; with_reducible rfl)) ?_
      simp only [Act.put, List.setIfInBounds_toArray, List.set_cons_zero, List.set_cons_succ]
      refine seqP_call (o := ⟨some 36, _, _, _, _, none⟩) rfl (by rfl) (fun K hK => ?_)
      go_simp
      refine hK _ _ ?_
      clear hK K
      refine seqP_take (o := ⟨some 37, _, _, _, _, none⟩) _ rfl (by rfl) (fun w => by (go_simp; with_reducible rfl)) ?_
      simp only [Act.put, List.setIfInBounds_toArray, List.set_cons_zero, List.set_cons_succ]
      refine seqP_call (o := ⟨some 38, _, _, _, _, none⟩) rfl (by rfl) (fun K hK => ?_)
      go_simp
      refine (HD.out _ hw1).mono ?_
      rintro e w2 ⟨rfl, hpj, hb2, hp2⟩
      rw [HDJ.out]
      have HP2 := Lib.hid hp2
      clear hp2
      refine hK _ _ ?_
      clear hK K
      refine seqP_take (o := ⟨some 39, _, _, _, _, none⟩) _ rfl (by rfl) (fun w => by (go_simp; with_reducible rfl)) ?_
      simp only [Act.put, List.setIfInBounds_toArray, List.set_cons_zero, List.set_cons_succ]
      refine seqP_take (o := ⟨some 40, _, _, _, _, none⟩) _ rfl (by rfl) (fun w => by (go_simp; with_reducible rfl)) ?_
      simp only [Act.put, List.setIfInBounds_toArray, List.set_cons_zero, List.set_cons_succ]
      have hbw2 : Below b w w2 := hb1.trans ((Below.drew (Below.refl b w1)).trans hb2)
      refine seqP_held (fun _ => True) trivial ?_
      clear hw1 d0 c0 c1 HD
      refine seqH_skip (o := ⟨some 41, _, _, _, _, some (8, false)⟩) rfl (unwanted_at 8 false 40 rfl rfl rfl) ?_
      simp only [Act.put, List.setIfInBounds_toArray, List.set_cons_zero, List.set_cons_succ]
      refine seqH_skip (o := ⟨some 42, _, _, _, _, some (8, false)⟩) rfl (unwanted_at 8 false 40 rfl rfl rfl) ?_
      simp only [Act.put, List.setIfInBounds_toArray, List.set_cons_zero, List.set_cons_succ]
      refine seqH_skip (o := ⟨some 43, _, _, _, _, some (8, false)⟩) rfl (unwanted_at 8 false 40 rfl rfl rfl) ?_
      simp only [Act.put, List.setIfInBounds_toArray, List.set_cons_zero, List.set_cons_succ]
      refine seqH_skip (o := ⟨some 44, _, _, _, _, some (8, false)⟩) rfl (unwanted_at 8 false 40 rfl rfl rfl) ?_
      simp only [Act.put, List.setIfInBounds_toArray, List.set_cons_zero, List.set_cons_succ]
      refine seqH_skip (o := ⟨some 45, _, _, _, _, some (8, false)⟩) rfl (unwanted_at 8 false 40 rfl rfl rfl) ?_
      simp only [Act.put, List.setIfInBounds_toArray, List.set_cons_zero, List.set_cons_succ]
      refine seqH_skip (o := ⟨some 46, _, _, _, _, some (8, false)⟩) rfl (unwanted_at 8 false 40 rfl rfl rfl) ?_
      simp only [Act.put, List.setIfInBounds_toArray, List.set_cons_zero, List.set_cons_succ]
      refine seqH_skip (o := ⟨some 47, _, _, _, _, some (8, false)⟩) rfl (unwanted_at 8 false 40 rfl rfl rfl) ?_
      simp only [Act.put, List.setIfInBounds_toArray, List.set_cons_zero, List.set_cons_succ]
      refine seqH_skip (o := ⟨some 48, _, _, _, _, some (8, false)⟩) rfl (unwanted_at 8 false 40 rfl rfl rfl) ?_
      simp only [Act.put, List.setIfInBounds_toArray, List.set_cons_zero, List.set_cons_succ]
      refine seqH_skip (o := ⟨some 49, _, _, _, _, some (8, false)⟩) rfl (unwanted_at 8 false 40 rfl rfl rfl) ?_
      simp only [Act.put, List.setIfInBounds_toArray, List.set_cons_zero, List.set_cons_succ]
      refine seqH_skip (o := ⟨some 50, _, _, _, _, some (8, false)⟩) rfl (unwanted_at 8 false 40 rfl rfl rfl) ?_
      simp only [Act.put, List.setIfInBounds_toArray, List.set_cons_zero, List.set_cons_succ]
      refine seqH_take (o := ⟨some 51, _, _, _, _, none⟩) _ rfl (by rfl) (fun W hW => by (go_simp; with_reducible rfl)) ?_
      simp only [Act.put, List.setIfInBounds_toArray, List.set_cons_zero, List.set_cons_succ]
      refine seqH_take (o := ⟨some 52, _, _, _, _, none⟩) _ rfl (by rfl) (fun W hW => by (go_simp; with_reducible rfl)) ?_
      simp only [Act.put, List.setIfInBounds_toArray, List.set_cons_zero, List.set_cons_succ]
      refine seqH_skip (o := ⟨some 53, _, _, _, _, some (20, false)⟩) rfl (unwanted_at 20 false 52 rfl rfl rfl) ?_
      simp only [Act.put, List.setIfInBounds_toArray, List.set_cons_zero, List.set_cons_succ]
      refine seqH_skip (o := ⟨some 54, _, _, _, _, some (20, false)⟩) rfl (unwanted_at 20 false 52 rfl rfl rfl) ?_
      simp only [Act.put, List.setIfInBounds_toArray, List.set_cons_zero, List.set_cons_succ]
      refine seqH_skip (o := ⟨some 55, _, _, _, _, some (20, false)⟩) rfl (unwanted_at 20 false 52 rfl rfl rfl) ?_
      simp only [Act.put, List.setIfInBounds_toArray, List.set_cons_zero, List.set_cons_succ]
      refine seqH_skip (o := ⟨some 56, _, _, _, _, some (20, false)⟩) rfl (unwanted_at 20 false 52 rfl rfl rfl) ?_
      simp only [Act.put, List.setIfInBounds_toArray, List.set_cons_zero, List.set_cons_succ]
      refine seqH_skip (o := ⟨some 57, _, _, _, _, some (20, false)⟩) rfl (unwanted_at 20 false 52 rfl rfl rfl) ?_
      simp only [Act.put, List.setIfInBounds_toArray, List.set_cons_zero, List.set_cons_succ]
      refine seqH_skip (o := ⟨some 58, _, _, _, _, some (20, false)⟩) rfl (unwanted_at 20 false 52 rfl rfl rfl) ?_
      simp only [Act.put, List.setIfInBounds_toArray, List.set_cons_zero, List.set_cons_succ]
      refine seqH_skip (o := ⟨some 59, _, _, _, _, some (20, false)⟩) rfl (unwanted_at 20 false 52 rfl rfl rfl) ?_
      simp only [Act.put, List.setIfInBounds_toArray, List.set_cons_zero, List.set_cons_succ]
      refine seqH_skip (o := ⟨some 60, _, _, _, _, some (20, false)⟩) rfl (unwanted_at 20 false 52 rfl rfl rfl) ?_
      simp only [Act.put, List.setIfInBounds_toArray, List.set_cons_zero, List.set_cons_succ]
      refine seqH_skip (o := ⟨some 61, _, _, _, _, some (20, false)⟩) rfl (unwanted_at 20 false 52 rfl rfl rfl) ?_
      simp only [Act.put, List.setIfInBounds_toArray, List.set_cons_zero, List.set_cons_succ]
      refine seqH_skip (o := ⟨some 62, _, _, _, _, some (20, false)⟩) rfl (unwanted_at 20 false 52 rfl rfl rfl) ?_
      simp only [Act.put, List.setIfInBounds_toArray, List.set_cons_zero, List.set_cons_succ]
      refine seqH_take (o := ⟨some 63, _, _, _, _, none⟩) _ rfl (by rfl) (fun W hW => by (go_simp; with_reducible rfl)) ?_
      simp only [Act.put, List.setIfInBounds_toArray, List.set_cons_zero, List.set_cons_succ]
      have HOUT : Hid (hexO (s.data.toList.drop pos) = none) := Lib.hid (by
        rw [HO.out, if_pos (by omega)])
      refine seqH_nil ?_
      go_wp2_with fail
      go_meet
      case rel => exact ⟨hbw2, .inl ⟨rfl, HOUT⟩⟩
  case rest =>
    obtain ⟨hbx, hcut⟩ := hcut
    clear hr1 hb1 c0 c1 HD HO
    rcases hcut with ⟨rfl, HOUT⟩ | ⟨rfl, HOUT, hlt, hrx⟩
    · go_wp2_with fail
      go_ret
      refine ⟨hbx, ?_⟩
      rw [HOUT.out]
      rfl
    · have c1 := hrx.c1
      have f1 := hrx.free 1
      have HRX : Hid (Rdr b s (pos + (j + 2)) (if okRune r then bs ++ Lib.runeCells r else bs) (if okRune r then bad else true) _) := Lib.hid (hrx.setPos (pos + (j + 2)))
      go_wp2_with fail
      go_ret
      rw [show (pos : Int) + 1 + (j : Int) + 1 = ((pos + (j + 2) : Nat) : Int) by omega]
      refine ⟨hbx.setCell (p := ⟨b, 1, none⟩) (Nat.le_refl _) _, ?_⟩
      rw [HOUT.out]
      exact ⟨rfl, by omega, HRX.out⟩

theorem hexO_two {l : List UInt8} (h : l.head? ≠ some 123) : hexO l = if (readNum 16 2 l 0).2 = 2 then some ((readNum 16 2 l 0).1, 2) else none := by
  unfold hexO
  split
  · exact absurd rfl h
  · rfl

set_option maxHeartbeats 3200000 in
set_option maxRecDepth 100000 in
theorem hexr_two (b : Nat) (s : ByteArray) (pos : Nat) (bs : List Value) (bad : Bool) (hs : s.size ≤ maxLen) (hp : pos ≤ s.size) (hc : (s.data.toList.drop pos).head? ≠ some 123) (w : World) (h : Rdr b s pos bs bad w) (hlen : bs.length + 4 ≤ 140737488355328) :
    Calls Tryd.prog 72 #[.pointer (some ⟨b, 0, none⟩)] w (EPost b s pos bs bad (hexO (s.data.toList.drop pos)) w) := by
  have hs' := hs
  unfold maxLen at hs'
  obtain ⟨r, j, hrj⟩ : ∃ r j, readNum 16 2 (s.data.toList.drop pos) 0 = (r, j) := ⟨_, _, rfl⟩
  have hO := hexO_two hc
  rw [hrj] at hO
  have hj2 := (readNum_le 16 2 (s.data.toList.drop pos) 0).1
  rw [hrj] at hj2
  simp only at hj2
  have HFIN : Hid (∀ w' w2, Below b w w' → DPost b s pos bs bad 2 r j w' (.returned (.bool (decide (2 ≤ j)))) w2 → EPost b s pos bs bad (hexO (s.data.toList.drop pos)) w (.returned (.bool (decide (2 ≤ j)))) w2) := Lib.hid (by
    rintro w' w2 hb' ⟨_, hpj, hb2, hp2⟩
    refine ⟨hb'.trans hb2, ?_⟩
    rw [hO]
    by_cases h2 : j = 2
    · subst h2
      rw [if_pos rfl]
      exact ⟨by simp, hpj, (hp2 (Nat.le_refl _)).1⟩
    · rw [if_neg h2]
      show Ending.returned (.bool (decide (2 ≤ j))) = _
      rw [decide_eq_false (by omega)])
  have HD : Hid (∀ w', Rdr b s pos bs bad w' → Calls Tryd.prog 74 #[.pointer (some ⟨b, 0, none⟩), .int .i64 16, .int .i64 2, .int .i64 2] w' (DPost b s pos bs bad 2 r j w')) := Lib.hid fun w' h' => digits_any b s pos bs bad 16 2 2 r j (.inr rfl) (by omega) (by unfold maxLen; omega) hs hp w' h' hlen hrj
  have c0 := h.c0
  have c1 := h.c1
  by_cases hlt : pos < s.size
  · have hkm : decide (pos < s.size) = true := by simp; omega
    have hcz : (((s[pos]'hlt).toNat : Int) == 123) = false := by
      simp
      intro hh
      apply hc
      rw [drop_at hlt]
      simp
      exact UInt8.toNat.inj (by rw [show (s[pos]'hlt).toNat = 123 by omega]; rfl)
    clear hrj hO hc hs
    go_enter Tryd.func72, Tryd.ntmps72
    go_wp2_with fail
    go_quiet (fail)
    go_wp2_with fail
    refine (HD.out _ (h.drewN _)).mono ?_
    rintro e w2 hd
    obtain ⟨rfl, hpj, hb2, hp2⟩ := hd
    have hfin := HFIN.out _ w2 (bel_drewN (Below.refl b w) _) ⟨rfl, hpj, hb2, hp2⟩
    have HF2 := Lib.hid hfin
    clear hpj hb2 hp2 hfin
    go_wp2_with fail
    go_ret
    exact HF2.out
  · have hkm : decide (pos < s.size) = false := by simp; omega
    clear hrj hO hc hs
    go_enter Tryd.func72, Tryd.ntmps72
    go_wp2_with fail
    go_quiet (fail)
    go_wp2_with fail
    refine (HD.out _ (h.drewN _)).mono ?_
    rintro e w2 hd
    obtain ⟨rfl, hpj, hb2, hp2⟩ := hd
    have hfin := HFIN.out _ w2 (bel_drewN (Below.refl b w) _) ⟨rfl, hpj, hb2, hp2⟩
    have HF2 := Lib.hid hfin
    clear hpj hb2 hp2 hfin
    go_wp2_with fail
    go_ret
    exact HF2.out

theorem hexr_any (b : Nat) (s : ByteArray) (pos : Nat) (bs : List Value) (bad : Bool) (hs : s.size ≤ maxLen) (hp : pos ≤ s.size) (w : World) (h : Rdr b s pos bs bad w) (hlen : bs.length + 4 ≤ 140737488355328) :
    Calls Tryd.prog 72 #[.pointer (some ⟨b, 0, none⟩)] w (EPost b s pos bs bad (hexO (s.data.toList.drop pos)) w) := by
  by_cases hc : (s.data.toList.drop pos).head? = some 123
  · have hlt : pos < s.size := by
      rcases Nat.lt_or_ge pos s.size with h' | h'
      · exact h'
      · rw [drop_end h'] at hc; cases hc
    refine hexr_brace b s pos bs bad hs hlt ?_ w h hlen
    rw [drop_at hlt] at hc
    exact Option.some.inj hc
  · exact hexr_two b s pos bs bad hs hp hc w h hlen
end Go.Proofs.YtflbcijmfcmilaaDoor
