/- The program's reader: one term. Printed by genOne.py. -/
import Derived.Test.YtkhjdcnlpablkaaDoorLst
namespace Go.Proofs.YtkhjdcnlpablkaaDoor
open Go.RowKit
open Go.Lib (byteCells)

def OneP (B : Nat) (w : World) (rb : Nat) (bv sv : Value) (bs : List UInt8) (X : Res (Rs × Nat × Bool)) (r : Ending) (w' : World) : Prop := ResP X
  (fun x => r = .returned (.agg #[.int .i64 x.2.1, .bool x.2.2]) ∧ Got B w rb bv sv bs w' x.1)
  (fun e p => (∃ (n : Int) (b : Bool), r = .returned (.agg #[.int .i64 n, .bool b])) ∧ Er B w rb bv sv bs e p w')

section
variable {B rb : Nat} {w w1 w9 : World} {bv sv sv1 : Value} {bs : List UInt8} {s s1 : Pr} {e p : Nat} {X : Res (Rs × Nat × Bool)} {c : Prop}
theorem one_er (hp : Rp B w rb bv sv bs s) (hE : Er B (w.alloc kidsO) rb bv sv bs e p w9) (hX : X = .bad e p) :
    w9.heap[w.heap.size]? = some kidsO ∧ ∀ (n : Int) (b : Bool) (w6 : World), Fr (fun k => k = w.heap.size) w9 w6 → OneP B w rb bv sv bs X (.returned (.agg #[.int .i64 n, .bool b])) w6 :=
  ⟨hE.mine hp, fun n b _ hf => ResP.badI hX ⟨⟨n, b, rfl⟩, hE.slot hp hf⟩⟩
theorem one_end (hp : Rp B w rb bv sv bs s) (hk : Rw B (w.alloc kidsO) rb bv sv bs w1 sv1 s1) {Y : Res (Rs × Nat × Bool)} (h : ResP Y (fun x => c ∧ Got B w1 rb bv sv1 bs w9 x.1 ∧ x.2 = (0, false)) (fun e p => c ∧ Er B w1 rb bv sv1 bs e p w9))
    (n : Nat) (hX : X = Y.bind fun x => .ok (x.1, n, false)) :
    w9.heap[w.heap.size]? = some kidsO ∧ ∀ (w6 : World), Fr (fun k => k = w.heap.size) w9 w6 → OneP B w rb bv sv bs X (.returned (.agg #[.int .i64 n, .bool false])) w6 := by
  cases Y with
  | ok x => exact ⟨(h.2.1.behind hk).mine hp, fun _ hf => ResP.okI hX ⟨rfl, (h.2.1.behind hk).slot hp hf⟩⟩
  | bad e p => exact ⟨(Er.behind hk h.2).mine hp, fun _ hf => ResP.badI hX ⟨⟨_, _, rfl⟩, (Er.behind hk h.2).slot hp hf⟩⟩
theorem ResP.fst {Y : Res (Rs × Nat × Bool)} {P : Rs × Nat × Bool → Prop} {Q : Nat → Nat → Prop} (h : ResP Y (fun x => c ∧ P x) (fun e p => c ∧ Q e p)) : c := by
  cases Y with
  | ok x => exact h.1
  | bad e p => exact h.1
theorem bind_same {Y : Res (Rs × Nat × Bool)} {P : Rs × Nat × Bool → Prop} {Q : Nat → Nat → Prop} (h : ResP Y (fun x => c ∧ P x ∧ x.2 = (0, false)) Q) : Y = Y.bind fun x => .ok (x.1, 0, false) := by
  cases Y with
  | ok x =>
    obtain ⟨a, b, d⟩ := x
    have := h.2.2
    simp only [Prod.mk.injEq] at this
    show Res.ok _ = Res.ok _
    rw [this.1, this.2]
  | bad e p => rfl
theorem one_list {r : Ending} (hp : Rp B w rb bv sv bs s) (hk : Rw B (w.alloc kidsO) rb bv sv bs w1 sv1 s1) (h : OneP B w1 rb bv sv1 bs X r w9) :
    (∃ (n : Int) (b : Bool), r = .returned (.agg #[.int .i64 n, .bool b])) ∧ w9.heap[w.heap.size]? = some kidsO ∧ ∀ (w6 : World), Fr (fun k => k = w.heap.size) w9 w6 → OneP B w rb bv sv bs X r w6 := by
  cases X with
  | ok x => exact ⟨⟨_, _, h.1⟩, (h.2.behind hk).mine hp, fun _ hf => ResP.okI rfl ⟨h.1, (h.2.behind hk).slot hp hf⟩⟩
  | bad e p => exact ⟨h.1, (Er.behind hk h.2).mine hp, fun _ hf => ResP.badI rfl ⟨h.1, (Er.behind hk h.2).slot hp hf⟩⟩
theorem made_same (s0 : Rs) (pos tg : Nat) (c : Ce) : madeD s0 pos tg c = (madeD s0 pos tg c).bind fun x => .ok (x.1, 0, false) := by
  unfold madeD
  split <;> rfl
end
theorem body_97 (bs : List UInt8) (s : Rs) (p : Nat) : bodyD bs s 97 p = ((numD bs p 1).bind fun n => madeD s (p + 1) s.pos (intC n)) := rfl
theorem body_98 (bs : List UInt8) (s : Rs) (p : Nat) : bodyD bs s 98 p = ((numD bs p 4).bind fun n => madeD s (p + 4) s.pos (intC (sgn4 n))) := rfl
theorem body_110 (bs : List UInt8) (s : Rs) (p : Nat) : bodyD bs s 110 p = ((bigD bs p s.pos).bind fun x => madeD s x.2 s.pos (intC x.1)) := rfl
theorem body_119 (bs : List UInt8) (s : Rs) (p : Nat) : bodyD bs s 119 p = ((textD bs p 119 s.pos).bind fun x => madeD s x.2 s.pos ⟨2, 0, x.1⟩) := rfl
theorem body_118 (bs : List UInt8) (s : Rs) (p : Nat) : bodyD bs s 118 p = ((textD bs p 118 s.pos).bind fun x => madeD s x.2 s.pos ⟨2, 0, x.1⟩) := rfl
theorem body_104 (bs : List UInt8) (s : Rs) (p : Nat) : bodyD bs s 104 p = ((numD bs p 1).bind fun n => (madeD s (p + 1) s.pos ⟨5, n, ⟨#[]⟩⟩).bind fun x => .ok (x.1, n, false)) := rfl
theorem body_105 (bs : List UInt8) (s : Rs) (p : Nat) : bodyD bs s 105 p = ((numD bs p 4).bind fun n => if 255 < n then .bad 1 s.pos else (madeD s (p + 4) s.pos ⟨5, n, ⟨#[]⟩⟩).bind fun x => .ok (x.1, n, false)) := rfl
theorem body_106 (bs : List UInt8) (s : Rs) (p : Nat) : bodyD bs s 106 p = (madeD s p s.pos nilC) := rfl
theorem body_107 (bs : List UInt8) (s : Rs) (p : Nat) : bodyD bs s 107 p = ((numD bs p 2).bind fun n => (takeD bs (p + 2) n).bind fun l => if 1024 < s.cells + (2 * n + 1) then .bad 7 s.pos else .ok (⟨p + 2 + n, s.cells + (2 * n + 1), s.out ++ charCs l ++ [nilC]⟩, 0, false)) := rfl
theorem body_108 (bs : List UInt8) (s : Rs) (p : Nat) : bodyD bs s 108 p = ((numD bs p 4).bind fun n => if 1024 < s.cells + n then .bad 7 s.pos else .ok (⟨p + 4, s.cells + n, s.out⟩, n + 1, true)) := rfl
theorem body_109 (bs : List UInt8) (s : Rs) (p : Nat) : bodyD bs s 109 p = ((numD bs p 4).bind fun n => (takeD bs (p + 4) n).bind fun l => if 1024 < n then .bad 4 s.pos else madeD s (p + 4 + n) s.pos ⟨8, 0, ⟨l.toArray⟩⟩) := rfl
theorem body_88 (bs : List UInt8) (s : Rs) (p : Nat) : bodyD bs s 88 p = ((pidD bs p s.pos).bind fun x => madeD s x.2 s.pos ⟨4, x.1, ⟨#[]⟩⟩) := rfl
theorem body_90 (bs : List UInt8) (s : Rs) (p : Nat) : bodyD bs s 90 p = ((refD bs p s.pos).bind fun x => madeD s x.2 s.pos ⟨3, x.1, ⟨#[]⟩⟩) := rfl

set_option maxHeartbeats 3200000 in
set_option maxRecDepth 100000 in
theorem one_97 (B rb : Nat) (bv sv : Value) (bs : List UInt8) (s : Pr) (hlen : bs.length ≤ 1048576) (hpos : 1 ≤ bs.length) (w : World) (h : Rp B w rb bv sv bs s) (hs : s.why = 0) (hcl : s.cells ≤ 1024) (hol : s.out.length ≤ 10000000)
    (hT : ∀ W, Below B w W → Lib.Utf8Tabs 0 1 W) (hlt : s.pos < bs.length) (ht : beN (rest bs s.pos 1) = 97) :
    Calls Tryd.prog 31 #[.pointer (some ⟨rb, 0, none⟩)] w (OneP B w rb bv sv bs (bodyD bs ⟨s.pos, s.cells, s.out⟩ 97 (s.pos + 1))) := by
  have hA := h.below (bel_box w kidsO)
  have H1 := first_ok B rb bv sv bs s hlen _ hA hs hlt
  rw [ht] at H1
  unfold kidsO at H1
  have HA := Lib.hid hA
  have HS := Lib.hid hs
  have H := Lib.hid h
  have HT := Lib.hid hT
  have HH1 := Lib.hid H1
  obtain ⟨X, hX⟩ : ∃ X, bodyD bs ⟨s.pos, s.cells, s.out⟩ 97 (s.pos + 1) = X := ⟨_, rfl⟩
  rw [hX]
  have HX : Hid (X = _) := Lib.hid hX.symm
  clear h hs hA hT H1 ht hX hlt
  go_enter Tryd.func31, Tryd.ntmps31
  go_wp2_with fail
  refine (HH1.out).mono ?_
  rintro r w1 ⟨rfl, h1⟩
  have HW1 : Hid (Rw B (w.alloc kidsO) rb bv sv bs w1 sv { s with tag := s.pos, pos := s.pos + 1 }) := Lib.hid h1
  clear h1
  cases hn : numD bs (s.pos + 1) 1 with
  | bad e p =>
    have HF : Hid (X = .bad e p) := Lib.hid (by rw [HX.out, body_97]; rw [hn]; rfl)
    have H2 := Lib.hid (callsBad (number_res B rb bv sv bs _ 1 hlen hpos (by omega) w1 HW1.out.rp HS.out) hn)
    clear hn
    go_wp2_with fail
    refine (H2.out).mono ?_
    rintro r w2 ⟨rfl, hE⟩
    replace hE := Er.behind HW1.out hE
    have H9 := Lib.hid fun v u => made_er 1 v u 1 hE
    clear hE
    go_wp2_with fail
    refine (H9.out _ _).mono ?_
    rintro r w9 ⟨rfl, hE⟩
    obtain ⟨hm, hp⟩ := one_er H.out hE HF.out
    clear hE
    obtain ⟨b0, b1, f0, f1⟩ := kids_cells hm
    have HM := Lib.hid hm
    have HP := Lib.hid hp
    clear hm hp
    go_wp2_with fail
    exact kids_ret rfl _ _ rfl rfl HM.out H.out (HP.out _ _ _ (fr_two _ _ _ _))
  | ok n =>
    have hnb : n < 256 ^ 1 := by
      have h1 := numD_ok hn
      have h2 := beN_lt (rest bs (s.pos + 1) 1)
      rw [rest_len h1.1, ← h1.2] at h2
      exact h2
    have HN := Lib.hid hn
    have H2 := Lib.hid (callsOk (number_res B rb bv sv bs _ 1 hlen hpos (by omega) w1 HW1.out.rp HS.out) hn)
    clear hn
    go_wp2_with fail
    refine (H2.out).mono ?_
    rintro r w2 ⟨rfl, h2⟩
    have HW2 := Lib.hid (HW1.out.trans h2)
    clear h2
    have H9 := Lib.hid (made_res B rb bv sv bs _ 1 (n : Int) ⟨#[]⟩ _ HW2.out.rp HS.out hcl hol ⟨s.pos, s.cells, s.out⟩ rfl rfl)
    go_wp2_with fail
    refine (H9.out).mono ?_
    intro r w9 h9
    obtain rfl := h9.fst
    obtain ⟨hm, hp⟩ := one_end (X := X) H.out HW2.out h9 0 (by rw [HX.out, body_97]; rw [HN.out]; exact made_same _ _ _ _)
    clear h9
    obtain ⟨b0, b1, f0, f1⟩ := kids_cells hm
    have HM := Lib.hid hm
    have HP := Lib.hid hp
    clear hm hp
    go_wp2_with fail
    exact kids_ret rfl _ _ rfl rfl HM.out H.out (HP.out _ (fr_two _ _ _ _))

set_option maxHeartbeats 3200000 in
set_option maxRecDepth 100000 in
theorem one_98 (B rb : Nat) (bv sv : Value) (bs : List UInt8) (s : Pr) (hlen : bs.length ≤ 1048576) (hpos : 1 ≤ bs.length) (w : World) (h : Rp B w rb bv sv bs s) (hs : s.why = 0) (hcl : s.cells ≤ 1024) (hol : s.out.length ≤ 10000000)
    (hT : ∀ W, Below B w W → Lib.Utf8Tabs 0 1 W) (hlt : s.pos < bs.length) (ht : beN (rest bs s.pos 1) = 98) :
    Calls Tryd.prog 31 #[.pointer (some ⟨rb, 0, none⟩)] w (OneP B w rb bv sv bs (bodyD bs ⟨s.pos, s.cells, s.out⟩ 98 (s.pos + 1))) := by
  have hA := h.below (bel_box w kidsO)
  have H1 := first_ok B rb bv sv bs s hlen _ hA hs hlt
  rw [ht] at H1
  unfold kidsO at H1
  have HA := Lib.hid hA
  have HS := Lib.hid hs
  have H := Lib.hid h
  have HT := Lib.hid hT
  have HH1 := Lib.hid H1
  obtain ⟨X, hX⟩ : ∃ X, bodyD bs ⟨s.pos, s.cells, s.out⟩ 98 (s.pos + 1) = X := ⟨_, rfl⟩
  rw [hX]
  have HX : Hid (X = _) := Lib.hid hX.symm
  clear h hs hA hT H1 ht hX hlt
  go_enter Tryd.func31, Tryd.ntmps31
  go_wp2_with fail
  refine (HH1.out).mono ?_
  rintro r w1 ⟨rfl, h1⟩
  have HW1 : Hid (Rw B (w.alloc kidsO) rb bv sv bs w1 sv { s with tag := s.pos, pos := s.pos + 1 }) := Lib.hid h1
  clear h1
  cases hn : numD bs (s.pos + 1) 4 with
  | bad e p =>
    have HF : Hid (X = .bad e p) := Lib.hid (by rw [HX.out, body_98]; rw [hn]; rfl)
    have H2 := Lib.hid (callsBad (number_res B rb bv sv bs _ 4 hlen hpos (by omega) w1 HW1.out.rp HS.out) hn)
    clear hn
    go_wp2_with fail
    refine (H2.out).mono ?_
    rintro r w2 ⟨rfl, hE⟩
    replace hE := Er.behind HW1.out hE
    have H9 := Lib.hid fun v u => made_er 1 v u 1 hE
    clear hE
    go_wp2_with fail
    refine (H9.out _ _).mono ?_
    rintro r w9 ⟨rfl, hE⟩
    obtain ⟨hm, hp⟩ := one_er H.out hE HF.out
    clear hE
    obtain ⟨b0, b1, f0, f1⟩ := kids_cells hm
    have HM := Lib.hid hm
    have HP := Lib.hid hp
    clear hm hp
    go_wp2_with fail
    exact kids_ret rfl _ _ rfl rfl HM.out H.out (HP.out _ _ _ (fr_two _ _ _ _))
  | ok n =>
    have hnb : n < 256 ^ 4 := by
      have h1 := numD_ok hn
      have h2 := beN_lt (rest bs (s.pos + 1) 4)
      rw [rest_len h1.1, ← h1.2] at h2
      exact h2
    have HN := Lib.hid hn
    have H2 := Lib.hid (callsOk (number_res B rb bv sv bs _ 4 hlen hpos (by omega) w1 HW1.out.rp HS.out) hn)
    clear hn
    go_wp2_with fail
    refine (H2.out).mono ?_
    rintro r w2 ⟨rfl, h2⟩
    have HW2 := Lib.hid (HW1.out.trans h2)
    clear h2
    obtain ⟨m, hmm⟩ : ∃ m, sgn4 n = m := ⟨_, rfl⟩
    have q1 : IntKind.i32.wrap (n : Int) = m := by rw [← hmm, IntKind.wrap_i32]; unfold sgn4; split <;> omega
    have q2 : IntKind.i64.wrap m = m := by rw [← hmm, IntKind.wrap_i64]; unfold sgn4; split <;> omega
    have HMM := Lib.hid hmm
    clear hmm
    have H9 := Lib.hid (made_res B rb bv sv bs _ 1 m ⟨#[]⟩ _ HW2.out.rp HS.out hcl hol ⟨s.pos, s.cells, s.out⟩ rfl rfl)
    go_wp2_with fail
    refine (H9.out).mono ?_
    intro r w9 h9
    obtain rfl := h9.fst
    obtain ⟨hm, hp⟩ := one_end (X := X) H.out HW2.out h9 0 (by rw [HX.out, body_98]; rw [HN.out]; show madeD _ _ _ (intC (sgn4 n)) = _; rw [HMM.out]; exact made_same _ _ _ _)
    clear h9
    obtain ⟨b0, b1, f0, f1⟩ := kids_cells hm
    have HM := Lib.hid hm
    have HP := Lib.hid hp
    clear hm hp
    go_wp2_with fail
    exact kids_ret rfl _ _ rfl rfl HM.out H.out (HP.out _ (fr_two _ _ _ _))

set_option maxHeartbeats 3200000 in
set_option maxRecDepth 100000 in
theorem one_110 (B rb : Nat) (bv sv : Value) (bs : List UInt8) (s : Pr) (hlen : bs.length ≤ 1048576) (hpos : 1 ≤ bs.length) (w : World) (h : Rp B w rb bv sv bs s) (hs : s.why = 0) (hcl : s.cells ≤ 1024) (hol : s.out.length ≤ 10000000)
    (hT : ∀ W, Below B w W → Lib.Utf8Tabs 0 1 W) (hlt : s.pos < bs.length) (ht : beN (rest bs s.pos 1) = 110) :
    Calls Tryd.prog 31 #[.pointer (some ⟨rb, 0, none⟩)] w (OneP B w rb bv sv bs (bodyD bs ⟨s.pos, s.cells, s.out⟩ 110 (s.pos + 1))) := by
  have hA := h.below (bel_box w kidsO)
  have H1 := first_ok B rb bv sv bs s hlen _ hA hs hlt
  rw [ht] at H1
  unfold kidsO at H1
  have HA := Lib.hid hA
  have HS := Lib.hid hs
  have H := Lib.hid h
  have HT := Lib.hid hT
  have HH1 := Lib.hid H1
  obtain ⟨X, hX⟩ : ∃ X, bodyD bs ⟨s.pos, s.cells, s.out⟩ 110 (s.pos + 1) = X := ⟨_, rfl⟩
  rw [hX]
  have HX : Hid (X = _) := Lib.hid hX.symm
  clear h hs hA hT H1 ht hX hlt
  go_enter Tryd.func31, Tryd.ntmps31
  go_wp2_with fail
  refine (HH1.out).mono ?_
  rintro r w1 ⟨rfl, h1⟩
  have HW1 : Hid (Rw B (w.alloc kidsO) rb bv sv bs w1 sv { s with tag := s.pos, pos := s.pos + 1 }) := Lib.hid h1
  clear h1
  cases hn : bigD bs (s.pos + 1) s.pos with
  | bad e p =>
    have HF : Hid (X = .bad e p) := Lib.hid (by rw [HX.out, body_110]; rw [hn]; rfl)
    have H2 := Lib.hid (callsBad (big_any B rb bv sv bs _ hlen hpos w1 HW1.out.rp HS.out) hn)
    clear hn
    go_wp2_with fail
    refine (H2.out).mono ?_
    rintro r w2 ⟨rfl, hE⟩
    replace hE := Er.behind HW1.out hE
    have H9 := Lib.hid fun v u => made_er 1 v u 1 hE
    clear hE
    go_wp2_with fail
    refine (H9.out _ _).mono ?_
    rintro r w9 ⟨rfl, hE⟩
    obtain ⟨hm, hp⟩ := one_er H.out hE HF.out
    clear hE
    obtain ⟨b0, b1, f0, f1⟩ := kids_cells hm
    have HM := Lib.hid hm
    have HP := Lib.hid hp
    clear hm hp
    go_wp2_with fail
    exact kids_ret rfl _ _ rfl rfl HM.out H.out (HP.out _ _ _ (fr_two _ _ _ _))
  | ok n =>
    have HN := Lib.hid hn
    have H2 := Lib.hid (callsOk (big_any B rb bv sv bs _ hlen hpos w1 HW1.out.rp HS.out) hn)
    clear hn
    go_wp2_with fail
    refine (H2.out).mono ?_
    rintro r w2 ⟨rfl, h2⟩
    have HW2 := Lib.hid (HW1.out.trans h2)
    clear h2
    have H9 := Lib.hid (made_res B rb bv sv bs _ 1 n.1 ⟨#[]⟩ _ HW2.out.rp HS.out hcl hol ⟨s.pos, s.cells, s.out⟩ rfl rfl)
    go_wp2_with fail
    refine (H9.out).mono ?_
    intro r w9 h9
    obtain rfl := h9.fst
    obtain ⟨hm, hp⟩ := one_end (X := X) H.out HW2.out h9 0 (by rw [HX.out, body_110]; rw [HN.out]; exact made_same _ _ _ _)
    clear h9
    obtain ⟨b0, b1, f0, f1⟩ := kids_cells hm
    have HM := Lib.hid hm
    have HP := Lib.hid hp
    clear hm hp
    go_wp2_with fail
    exact kids_ret rfl _ _ rfl rfl HM.out H.out (HP.out _ (fr_two _ _ _ _))

set_option maxHeartbeats 3200000 in
set_option maxRecDepth 100000 in
theorem one_119 (B rb : Nat) (bv sv : Value) (bs : List UInt8) (s : Pr) (hlen : bs.length ≤ 1048576) (hpos : 1 ≤ bs.length) (w : World) (h : Rp B w rb bv sv bs s) (hs : s.why = 0) (hcl : s.cells ≤ 1024) (hol : s.out.length ≤ 10000000)
    (hT : ∀ W, Below B w W → Lib.Utf8Tabs 0 1 W) (hlt : s.pos < bs.length) (ht : beN (rest bs s.pos 1) = 119) :
    Calls Tryd.prog 31 #[.pointer (some ⟨rb, 0, none⟩)] w (OneP B w rb bv sv bs (bodyD bs ⟨s.pos, s.cells, s.out⟩ 119 (s.pos + 1))) := by
  have hA := h.below (bel_box w kidsO)
  have H1 := first_ok B rb bv sv bs s hlen _ hA hs hlt
  rw [ht] at H1
  unfold kidsO at H1
  have HA := Lib.hid hA
  have HS := Lib.hid hs
  have H := Lib.hid h
  have HT := Lib.hid hT
  have HH1 := Lib.hid H1
  obtain ⟨X, hX⟩ : ∃ X, bodyD bs ⟨s.pos, s.cells, s.out⟩ 119 (s.pos + 1) = X := ⟨_, rfl⟩
  rw [hX]
  have HX : Hid (X = _) := Lib.hid hX.symm
  clear h hs hA hT H1 ht hX hlt
  go_enter Tryd.func31, Tryd.ntmps31
  go_wp2_with fail
  refine (HH1.out).mono ?_
  rintro r w1 ⟨rfl, h1⟩
  have HW1 : Hid (Rw B (w.alloc kidsO) rb bv sv bs w1 sv { s with tag := s.pos, pos := s.pos + 1 }) := Lib.hid h1
  clear h1
  cases hn : textD bs (s.pos + 1) 119 s.pos with
  | bad e p =>
    have HF : Hid (X = .bad e p) := Lib.hid (by rw [HX.out, body_119]; rw [hn]; rfl)
    have H2 := Lib.hid (callsBad (text_any B rb bv sv bs _ 119 (.inr rfl) hlen hpos w1 HW1.out.rp HS.out (fun W hW => HT.out W (((HW1.out.behind (bel_box _ _)).bel H.out).trans hW))) hn)
    clear hn
    go_wp2_with fail
    refine (H2.out).mono ?_
    rintro r w2 ⟨⟨str, rfl⟩, hE⟩
    replace hE := Er.behind HW1.out hE
    have H9 := Lib.hid fun v u => made_er 2 v u 1 hE
    clear hE
    go_wp2_with fail
    refine (H9.out _ _).mono ?_
    rintro r w9 ⟨rfl, hE⟩
    obtain ⟨hm, hp⟩ := one_er H.out hE HF.out
    clear hE
    obtain ⟨b0, b1, f0, f1⟩ := kids_cells hm
    have HM := Lib.hid hm
    have HP := Lib.hid hp
    clear hm hp
    go_wp2_with fail
    exact kids_ret rfl _ _ rfl rfl HM.out H.out (HP.out _ _ _ (fr_two _ _ _ _))
  | ok n =>
    have HN := Lib.hid hn
    have H2 := Lib.hid (callsOk (text_any B rb bv sv bs _ 119 (.inr rfl) hlen hpos w1 HW1.out.rp HS.out (fun W hW => HT.out W (((HW1.out.behind (bel_box _ _)).bel H.out).trans hW))) hn)
    clear hn
    go_wp2_with fail
    refine (H2.out).mono ?_
    rintro r w2 ⟨rfl, h2⟩
    have HW2 := Lib.hid (HW1.out.trans h2)
    clear h2
    have H9 := Lib.hid (made_res B rb bv sv bs _ 2 0 n.1 _ HW2.out.rp HS.out hcl hol ⟨s.pos, s.cells, s.out⟩ rfl rfl)
    go_wp2_with fail
    refine (H9.out).mono ?_
    intro r w9 h9
    obtain rfl := h9.fst
    obtain ⟨hm, hp⟩ := one_end (X := X) H.out HW2.out h9 0 (by rw [HX.out, body_119]; rw [HN.out]; exact made_same _ _ _ _)
    clear h9
    obtain ⟨b0, b1, f0, f1⟩ := kids_cells hm
    have HM := Lib.hid hm
    have HP := Lib.hid hp
    clear hm hp
    go_wp2_with fail
    exact kids_ret rfl _ _ rfl rfl HM.out H.out (HP.out _ (fr_two _ _ _ _))

set_option maxHeartbeats 3200000 in
set_option maxRecDepth 100000 in
theorem one_118 (B rb : Nat) (bv sv : Value) (bs : List UInt8) (s : Pr) (hlen : bs.length ≤ 1048576) (hpos : 1 ≤ bs.length) (w : World) (h : Rp B w rb bv sv bs s) (hs : s.why = 0) (hcl : s.cells ≤ 1024) (hol : s.out.length ≤ 10000000)
    (hT : ∀ W, Below B w W → Lib.Utf8Tabs 0 1 W) (hlt : s.pos < bs.length) (ht : beN (rest bs s.pos 1) = 118) :
    Calls Tryd.prog 31 #[.pointer (some ⟨rb, 0, none⟩)] w (OneP B w rb bv sv bs (bodyD bs ⟨s.pos, s.cells, s.out⟩ 118 (s.pos + 1))) := by
  have hA := h.below (bel_box w kidsO)
  have H1 := first_ok B rb bv sv bs s hlen _ hA hs hlt
  rw [ht] at H1
  unfold kidsO at H1
  have HA := Lib.hid hA
  have HS := Lib.hid hs
  have H := Lib.hid h
  have HT := Lib.hid hT
  have HH1 := Lib.hid H1
  obtain ⟨X, hX⟩ : ∃ X, bodyD bs ⟨s.pos, s.cells, s.out⟩ 118 (s.pos + 1) = X := ⟨_, rfl⟩
  rw [hX]
  have HX : Hid (X = _) := Lib.hid hX.symm
  clear h hs hA hT H1 ht hX hlt
  go_enter Tryd.func31, Tryd.ntmps31
  go_wp2_with fail
  refine (HH1.out).mono ?_
  rintro r w1 ⟨rfl, h1⟩
  have HW1 : Hid (Rw B (w.alloc kidsO) rb bv sv bs w1 sv { s with tag := s.pos, pos := s.pos + 1 }) := Lib.hid h1
  clear h1
  cases hn : textD bs (s.pos + 1) 118 s.pos with
  | bad e p =>
    have HF : Hid (X = .bad e p) := Lib.hid (by rw [HX.out, body_118]; rw [hn]; rfl)
    have H2 := Lib.hid (callsBad (text_any B rb bv sv bs _ 118 (.inl rfl) hlen hpos w1 HW1.out.rp HS.out (fun W hW => HT.out W (((HW1.out.behind (bel_box _ _)).bel H.out).trans hW))) hn)
    clear hn
    go_wp2_with fail
    refine (H2.out).mono ?_
    rintro r w2 ⟨⟨str, rfl⟩, hE⟩
    replace hE := Er.behind HW1.out hE
    have H9 := Lib.hid fun v u => made_er 2 v u 1 hE
    clear hE
    go_wp2_with fail
    refine (H9.out _ _).mono ?_
    rintro r w9 ⟨rfl, hE⟩
    obtain ⟨hm, hp⟩ := one_er H.out hE HF.out
    clear hE
    obtain ⟨b0, b1, f0, f1⟩ := kids_cells hm
    have HM := Lib.hid hm
    have HP := Lib.hid hp
    clear hm hp
    go_wp2_with fail
    exact kids_ret rfl _ _ rfl rfl HM.out H.out (HP.out _ _ _ (fr_two _ _ _ _))
  | ok n =>
    have HN := Lib.hid hn
    have H2 := Lib.hid (callsOk (text_any B rb bv sv bs _ 118 (.inl rfl) hlen hpos w1 HW1.out.rp HS.out (fun W hW => HT.out W (((HW1.out.behind (bel_box _ _)).bel H.out).trans hW))) hn)
    clear hn
    go_wp2_with fail
    refine (H2.out).mono ?_
    rintro r w2 ⟨rfl, h2⟩
    have HW2 := Lib.hid (HW1.out.trans h2)
    clear h2
    have H9 := Lib.hid (made_res B rb bv sv bs _ 2 0 n.1 _ HW2.out.rp HS.out hcl hol ⟨s.pos, s.cells, s.out⟩ rfl rfl)
    go_wp2_with fail
    refine (H9.out).mono ?_
    intro r w9 h9
    obtain rfl := h9.fst
    obtain ⟨hm, hp⟩ := one_end (X := X) H.out HW2.out h9 0 (by rw [HX.out, body_118]; rw [HN.out]; exact made_same _ _ _ _)
    clear h9
    obtain ⟨b0, b1, f0, f1⟩ := kids_cells hm
    have HM := Lib.hid hm
    have HP := Lib.hid hp
    clear hm hp
    go_wp2_with fail
    exact kids_ret rfl _ _ rfl rfl HM.out H.out (HP.out _ (fr_two _ _ _ _))

set_option maxHeartbeats 3200000 in
set_option maxRecDepth 100000 in
theorem one_104 (B rb : Nat) (bv sv : Value) (bs : List UInt8) (s : Pr) (hlen : bs.length ≤ 1048576) (hpos : 1 ≤ bs.length) (w : World) (h : Rp B w rb bv sv bs s) (hs : s.why = 0) (hcl : s.cells ≤ 1024) (hol : s.out.length ≤ 10000000)
    (hT : ∀ W, Below B w W → Lib.Utf8Tabs 0 1 W) (hlt : s.pos < bs.length) (ht : beN (rest bs s.pos 1) = 104) :
    Calls Tryd.prog 31 #[.pointer (some ⟨rb, 0, none⟩)] w (OneP B w rb bv sv bs (bodyD bs ⟨s.pos, s.cells, s.out⟩ 104 (s.pos + 1))) := by
  have hA := h.below (bel_box w kidsO)
  have H1 := first_ok B rb bv sv bs s hlen _ hA hs hlt
  rw [ht] at H1
  unfold kidsO at H1
  have HA := Lib.hid hA
  have HS := Lib.hid hs
  have H := Lib.hid h
  have HT := Lib.hid hT
  have HH1 := Lib.hid H1
  obtain ⟨X, hX⟩ : ∃ X, bodyD bs ⟨s.pos, s.cells, s.out⟩ 104 (s.pos + 1) = X := ⟨_, rfl⟩
  rw [hX]
  have HX : Hid (X = _) := Lib.hid hX.symm
  clear h hs hA hT H1 ht hX hlt
  go_enter Tryd.func31, Tryd.ntmps31
  go_wp2_with fail
  refine (HH1.out).mono ?_
  rintro r w1 ⟨rfl, h1⟩
  have HW1 : Hid (Rw B (w.alloc kidsO) rb bv sv bs w1 sv { s with tag := s.pos, pos := s.pos + 1 }) := Lib.hid h1
  clear h1
  cases hn : numD bs (s.pos + 1) 1 with
  | bad e p =>
    have HF : Hid (X = .bad e p) := Lib.hid (by rw [HX.out, body_104]; rw [hn]; rfl)
    have H2 := Lib.hid (callsBad (number_res B rb bv sv bs _ 1 hlen hpos (by omega) w1 HW1.out.rp HS.out) hn)
    clear hn
    go_wp2_with fail
    refine (H2.out).mono ?_
    rintro r w2 ⟨rfl, hE⟩
    replace hE := Er.behind HW1.out hE
    have H9 := Lib.hid (tuple_er 0 hE)
    clear hE
    go_wp2_with fail
    refine (H9.out).mono ?_
    rintro r w9 ⟨rfl, hE⟩
    obtain ⟨hm, hp⟩ := one_er H.out hE HF.out
    clear hE
    obtain ⟨b0, b1, f0, f1⟩ := kids_cells hm
    have HM := Lib.hid hm
    have HP := Lib.hid hp
    clear hm hp
    go_wp2_with fail
    exact kids_ret rfl _ _ rfl rfl HM.out H.out (HP.out _ _ _ (fr_two _ _ _ _))
  | ok n =>
    have hnb : n < 256 ^ 1 := by
      have h1 := numD_ok hn
      have h2 := beN_lt (rest bs (s.pos + 1) 1)
      rw [rest_len h1.1, ← h1.2] at h2
      exact h2
    have HN := Lib.hid hn
    have H2 := Lib.hid (callsOk (number_res B rb bv sv bs _ 1 hlen hpos (by omega) w1 HW1.out.rp HS.out) hn)
    clear hn
    go_wp2_with fail
    refine (H2.out).mono ?_
    rintro r w2 ⟨rfl, h2⟩
    have HW2 := Lib.hid (HW1.out.trans h2)
    clear h2
    have H9 := Lib.hid (tuple_any B rb bv sv bs _ ⟨s.pos, s.cells, s.out⟩ n w2 HW2.out.rp HS.out hcl hol rfl rfl)
    go_wp2_with fail
    refine (H9.out).mono ?_
    intro r w9 h9
    obtain rfl := h9.fst
    obtain ⟨hm, hp⟩ := one_end (X := X) H.out HW2.out h9 n (by rw [HX.out, body_104]; rw [HN.out, if_neg (by omega)]; rfl)
    clear h9
    obtain ⟨b0, b1, f0, f1⟩ := kids_cells hm
    have HM := Lib.hid hm
    have HP := Lib.hid hp
    clear hm hp
    go_wp2_with fail
    exact kids_ret rfl _ _ rfl rfl HM.out H.out (HP.out _ (fr_two _ _ _ _))

set_option maxHeartbeats 3200000 in
set_option maxRecDepth 100000 in
theorem one_105 (B rb : Nat) (bv sv : Value) (bs : List UInt8) (s : Pr) (hlen : bs.length ≤ 1048576) (hpos : 1 ≤ bs.length) (w : World) (h : Rp B w rb bv sv bs s) (hs : s.why = 0) (hcl : s.cells ≤ 1024) (hol : s.out.length ≤ 10000000)
    (hT : ∀ W, Below B w W → Lib.Utf8Tabs 0 1 W) (hlt : s.pos < bs.length) (ht : beN (rest bs s.pos 1) = 105) :
    Calls Tryd.prog 31 #[.pointer (some ⟨rb, 0, none⟩)] w (OneP B w rb bv sv bs (bodyD bs ⟨s.pos, s.cells, s.out⟩ 105 (s.pos + 1))) := by
  have hA := h.below (bel_box w kidsO)
  have H1 := first_ok B rb bv sv bs s hlen _ hA hs hlt
  rw [ht] at H1
  unfold kidsO at H1
  have HA := Lib.hid hA
  have HS := Lib.hid hs
  have H := Lib.hid h
  have HT := Lib.hid hT
  have HH1 := Lib.hid H1
  obtain ⟨X, hX⟩ : ∃ X, bodyD bs ⟨s.pos, s.cells, s.out⟩ 105 (s.pos + 1) = X := ⟨_, rfl⟩
  rw [hX]
  have HX : Hid (X = _) := Lib.hid hX.symm
  clear h hs hA hT H1 ht hX hlt
  go_enter Tryd.func31, Tryd.ntmps31
  go_wp2_with fail
  refine (HH1.out).mono ?_
  rintro r w1 ⟨rfl, h1⟩
  have HW1 : Hid (Rw B (w.alloc kidsO) rb bv sv bs w1 sv { s with tag := s.pos, pos := s.pos + 1 }) := Lib.hid h1
  clear h1
  cases hn : numD bs (s.pos + 1) 4 with
  | bad e p =>
    have HF : Hid (X = .bad e p) := Lib.hid (by rw [HX.out, body_105]; rw [hn]; rfl)
    have H2 := Lib.hid (callsBad (number_res B rb bv sv bs _ 4 hlen hpos (by omega) w1 HW1.out.rp HS.out) hn)
    clear hn
    go_wp2_with fail
    refine (H2.out).mono ?_
    rintro r w2 ⟨rfl, hE⟩
    replace hE := Er.behind HW1.out hE
    have H9 := Lib.hid (tuple_er 0 hE)
    clear hE
    go_wp2_with fail
    refine (H9.out).mono ?_
    rintro r w9 ⟨rfl, hE⟩
    obtain ⟨hm, hp⟩ := one_er H.out hE HF.out
    clear hE
    obtain ⟨b0, b1, f0, f1⟩ := kids_cells hm
    have HM := Lib.hid hm
    have HP := Lib.hid hp
    clear hm hp
    go_wp2_with fail
    exact kids_ret rfl _ _ rfl rfl HM.out H.out (HP.out _ _ _ (fr_two _ _ _ _))
  | ok n =>
    have hnb : n < 256 ^ 4 := by
      have h1 := numD_ok hn
      have h2 := beN_lt (rest bs (s.pos + 1) 4)
      rw [rest_len h1.1, ← h1.2] at h2
      exact h2
    have HN := Lib.hid hn
    have H2 := Lib.hid (callsOk (number_res B rb bv sv bs _ 4 hlen hpos (by omega) w1 HW1.out.rp HS.out) hn)
    clear hn
    go_wp2_with fail
    refine (H2.out).mono ?_
    rintro r w2 ⟨rfl, h2⟩
    have HW2 := Lib.hid (HW1.out.trans h2)
    clear h2
    have H9 := Lib.hid (tuple_any B rb bv sv bs _ ⟨s.pos, s.cells, s.out⟩ n w2 HW2.out.rp HS.out hcl hol rfl rfl)
    go_wp2_with fail
    refine (H9.out).mono ?_
    intro r w9 h9
    obtain rfl := h9.fst
    obtain ⟨hm, hp⟩ := one_end (X := X) H.out HW2.out h9 n (by rw [HX.out, body_105]; rw [HN.out]; show (if _ then _ else _) = _; split <;> rfl)
    clear h9
    obtain ⟨b0, b1, f0, f1⟩ := kids_cells hm
    have HM := Lib.hid hm
    have HP := Lib.hid hp
    clear hm hp
    go_wp2_with fail
    exact kids_ret rfl _ _ rfl rfl HM.out H.out (HP.out _ (fr_two _ _ _ _))

set_option maxHeartbeats 3200000 in
set_option maxRecDepth 100000 in
theorem one_106 (B rb : Nat) (bv sv : Value) (bs : List UInt8) (s : Pr) (hlen : bs.length ≤ 1048576) (_ : 1 ≤ bs.length) (w : World) (h : Rp B w rb bv sv bs s) (hs : s.why = 0) (hcl : s.cells ≤ 1024) (hol : s.out.length ≤ 10000000)
    (hT : ∀ W, Below B w W → Lib.Utf8Tabs 0 1 W) (hlt : s.pos < bs.length) (ht : beN (rest bs s.pos 1) = 106) :
    Calls Tryd.prog 31 #[.pointer (some ⟨rb, 0, none⟩)] w (OneP B w rb bv sv bs (bodyD bs ⟨s.pos, s.cells, s.out⟩ 106 (s.pos + 1))) := by
  have hA := h.below (bel_box w kidsO)
  have H1 := first_ok B rb bv sv bs s hlen _ hA hs hlt
  rw [ht] at H1
  unfold kidsO at H1
  have HA := Lib.hid hA
  have HS := Lib.hid hs
  have H := Lib.hid h
  have HT := Lib.hid hT
  have HH1 := Lib.hid H1
  obtain ⟨X, hX⟩ : ∃ X, bodyD bs ⟨s.pos, s.cells, s.out⟩ 106 (s.pos + 1) = X := ⟨_, rfl⟩
  rw [hX]
  have HX : Hid (X = _) := Lib.hid hX.symm
  clear h hs hA hT H1 ht hX hlt
  go_enter Tryd.func31, Tryd.ntmps31
  go_wp2_with fail
  refine (HH1.out).mono ?_
  rintro r w1 ⟨rfl, h1⟩
  have HW1 : Hid (Rw B (w.alloc kidsO) rb bv sv bs w1 sv { s with tag := s.pos, pos := s.pos + 1 }) := Lib.hid h1
  clear h1
  have H9 := Lib.hid (made_res B rb bv sv bs _ 6 0 ⟨#[]⟩ _ HW1.out.rp HS.out hcl hol ⟨s.pos, s.cells, s.out⟩ rfl rfl)
  go_wp2_with fail
  refine (H9.out).mono ?_
  intro r w9 h9
  obtain rfl := h9.fst
  obtain ⟨hm, hp⟩ := one_end (X := X) H.out HW1.out h9 0 (by rw [HX.out, body_106]; exact made_same _ _ _ _)
  clear h9
  obtain ⟨b0, b1, f0, f1⟩ := kids_cells hm
  have HM := Lib.hid hm
  have HP := Lib.hid hp
  clear hm hp
  go_wp2_with fail
  exact kids_ret rfl _ _ rfl rfl HM.out H.out (HP.out _ (fr_two _ _ _ _))

set_option maxHeartbeats 3200000 in
set_option maxRecDepth 100000 in
theorem one_107 (B rb : Nat) (bv sv : Value) (bs : List UInt8) (s : Pr) (hlen : bs.length ≤ 1048576) (hpos : 1 ≤ bs.length) (w : World) (h : Rp B w rb bv sv bs s) (hs : s.why = 0) (hcl : s.cells ≤ 1024) (hol : s.out.length ≤ 10000000)
    (hT : ∀ W, Below B w W → Lib.Utf8Tabs 0 1 W) (hlt : s.pos < bs.length) (ht : beN (rest bs s.pos 1) = 107) :
    Calls Tryd.prog 31 #[.pointer (some ⟨rb, 0, none⟩)] w (OneP B w rb bv sv bs (bodyD bs ⟨s.pos, s.cells, s.out⟩ 107 (s.pos + 1))) := by
  have hA := h.below (bel_box w kidsO)
  have H1 := first_ok B rb bv sv bs s hlen _ hA hs hlt
  rw [ht] at H1
  unfold kidsO at H1
  have HA := Lib.hid hA
  have HS := Lib.hid hs
  have H := Lib.hid h
  have HT := Lib.hid hT
  have HH1 := Lib.hid H1
  obtain ⟨X, hX⟩ : ∃ X, bodyD bs ⟨s.pos, s.cells, s.out⟩ 107 (s.pos + 1) = X := ⟨_, rfl⟩
  rw [hX]
  have HX : Hid (X = _) := Lib.hid hX.symm
  clear h hs hA hT H1 ht hX hlt
  go_enter Tryd.func31, Tryd.ntmps31
  go_wp2_with fail
  refine (HH1.out).mono ?_
  rintro r w1 ⟨rfl, h1⟩
  have HW1 : Hid (Rw B (w.alloc kidsO) rb bv sv bs w1 sv { s with tag := s.pos, pos := s.pos + 1 }) := Lib.hid h1
  clear h1
  have H9 := Lib.hid (chars_any B rb bv sv bs _ hlen hpos w1 HW1.out.rp HS.out hcl hol)
  go_wp2_with fail
  refine (H9.out).mono ?_
  intro r w9 h9
  obtain rfl := h9.fst
  obtain ⟨hm, hp⟩ := one_end (X := X) H.out HW1.out h9 0 (HX.out.trans (bind_same h9))
  clear h9
  obtain ⟨b0, b1, f0, f1⟩ := kids_cells hm
  have HM := Lib.hid hm
  have HP := Lib.hid hp
  clear hm hp
  go_wp2_with fail
  exact kids_ret rfl _ _ rfl rfl HM.out H.out (HP.out _ (fr_two _ _ _ _))

set_option maxHeartbeats 3200000 in
set_option maxRecDepth 100000 in
theorem one_88 (B rb : Nat) (bv sv : Value) (bs : List UInt8) (s : Pr) (hlen : bs.length ≤ 1048576) (hpos : 1 ≤ bs.length) (w : World) (h : Rp B w rb bv sv bs s) (hs : s.why = 0) (hcl : s.cells ≤ 1024) (hol : s.out.length ≤ 10000000)
    (hT : ∀ W, Below B w W → Lib.Utf8Tabs 0 1 W) (hlt : s.pos < bs.length) (ht : beN (rest bs s.pos 1) = 88) :
    Calls Tryd.prog 31 #[.pointer (some ⟨rb, 0, none⟩)] w (OneP B w rb bv sv bs (bodyD bs ⟨s.pos, s.cells, s.out⟩ 88 (s.pos + 1))) := by
  have hA := h.below (bel_box w kidsO)
  have H1 := first_ok B rb bv sv bs s hlen _ hA hs hlt
  rw [ht] at H1
  unfold kidsO at H1
  have HA := Lib.hid hA
  have HS := Lib.hid hs
  have H := Lib.hid h
  have HT := Lib.hid hT
  have HH1 := Lib.hid H1
  obtain ⟨X, hX⟩ : ∃ X, bodyD bs ⟨s.pos, s.cells, s.out⟩ 88 (s.pos + 1) = X := ⟨_, rfl⟩
  rw [hX]
  have HX : Hid (X = _) := Lib.hid hX.symm
  clear h hs hA hT H1 ht hX hlt
  go_enter Tryd.func31, Tryd.ntmps31
  go_wp2_with fail
  refine (HH1.out).mono ?_
  rintro r w1 ⟨rfl, h1⟩
  have HW1 : Hid (Rw B (w.alloc kidsO) rb bv sv bs w1 sv { s with tag := s.pos, pos := s.pos + 1 }) := Lib.hid h1
  clear h1
  have H9 := Lib.hid (pid_any B rb bv sv bs _ ⟨s.pos, s.cells, s.out⟩ hlen hpos w1 HW1.out.rp HS.out hcl hol (fun W hW => HT.out W (((HW1.out.behind (bel_box _ _)).bel H.out).trans hW)) rfl rfl)
  go_wp2_with fail
  refine (H9.out).mono ?_
  intro r w9 h9
  obtain rfl := h9.fst
  obtain ⟨hm, hp⟩ := one_end (X := X) H.out HW1.out h9 0 (HX.out.trans (bind_same h9))
  clear h9
  obtain ⟨b0, b1, f0, f1⟩ := kids_cells hm
  have HM := Lib.hid hm
  have HP := Lib.hid hp
  clear hm hp
  go_wp2_with fail
  exact kids_ret rfl _ _ rfl rfl HM.out H.out (HP.out _ (fr_two _ _ _ _))

set_option maxHeartbeats 3200000 in
set_option maxRecDepth 100000 in
theorem one_90 (B rb : Nat) (bv sv : Value) (bs : List UInt8) (s : Pr) (hlen : bs.length ≤ 1048576) (hpos : 1 ≤ bs.length) (w : World) (h : Rp B w rb bv sv bs s) (hs : s.why = 0) (hcl : s.cells ≤ 1024) (hol : s.out.length ≤ 10000000)
    (hT : ∀ W, Below B w W → Lib.Utf8Tabs 0 1 W) (hlt : s.pos < bs.length) (ht : beN (rest bs s.pos 1) = 90) :
    Calls Tryd.prog 31 #[.pointer (some ⟨rb, 0, none⟩)] w (OneP B w rb bv sv bs (bodyD bs ⟨s.pos, s.cells, s.out⟩ 90 (s.pos + 1))) := by
  have hA := h.below (bel_box w kidsO)
  have H1 := first_ok B rb bv sv bs s hlen _ hA hs hlt
  rw [ht] at H1
  unfold kidsO at H1
  have HA := Lib.hid hA
  have HS := Lib.hid hs
  have H := Lib.hid h
  have HT := Lib.hid hT
  have HH1 := Lib.hid H1
  obtain ⟨X, hX⟩ : ∃ X, bodyD bs ⟨s.pos, s.cells, s.out⟩ 90 (s.pos + 1) = X := ⟨_, rfl⟩
  rw [hX]
  have HX : Hid (X = _) := Lib.hid hX.symm
  clear h hs hA hT H1 ht hX hlt
  go_enter Tryd.func31, Tryd.ntmps31
  go_wp2_with fail
  refine (HH1.out).mono ?_
  rintro r w1 ⟨rfl, h1⟩
  have HW1 : Hid (Rw B (w.alloc kidsO) rb bv sv bs w1 sv { s with tag := s.pos, pos := s.pos + 1 }) := Lib.hid h1
  clear h1
  have H9 := Lib.hid (ref_any B rb bv sv bs _ ⟨s.pos, s.cells, s.out⟩ hlen hpos w1 HW1.out.rp HS.out hcl hol (fun W hW => HT.out W (((HW1.out.behind (bel_box _ _)).bel H.out).trans hW)) rfl rfl)
  go_wp2_with fail
  refine (H9.out).mono ?_
  intro r w9 h9
  obtain rfl := h9.fst
  obtain ⟨hm, hp⟩ := one_end (X := X) H.out HW1.out h9 0 (HX.out.trans (bind_same h9))
  clear h9
  obtain ⟨b0, b1, f0, f1⟩ := kids_cells hm
  have HM := Lib.hid hm
  have HP := Lib.hid hp
  clear hm hp
  go_wp2_with fail
  exact kids_ret rfl _ _ rfl rfl HM.out H.out (HP.out _ (fr_two _ _ _ _))

set_option maxHeartbeats 3200000 in
set_option maxRecDepth 100000 in
theorem one_108 (B rb : Nat) (bv sv : Value) (bs : List UInt8) (s : Pr) (hlen : bs.length ≤ 1048576) (hpos : 1 ≤ bs.length) (w : World) (h : Rp B w rb bv sv bs s) (hs : s.why = 0) (hcl : s.cells ≤ 1024) (_ : s.out.length ≤ 10000000)
    (hT : ∀ W, Below B w W → Lib.Utf8Tabs 0 1 W) (hlt : s.pos < bs.length) (ht : beN (rest bs s.pos 1) = 108) :
    Calls Tryd.prog 31 #[.pointer (some ⟨rb, 0, none⟩)] w (OneP B w rb bv sv bs (bodyD bs ⟨s.pos, s.cells, s.out⟩ 108 (s.pos + 1))) := by
  have hA := h.below (bel_box w kidsO)
  have H1 := first_ok B rb bv sv bs s hlen _ hA hs hlt
  rw [ht] at H1
  unfold kidsO at H1
  have HA := Lib.hid hA
  have HS := Lib.hid hs
  have H := Lib.hid h
  have HT := Lib.hid hT
  have HH1 := Lib.hid H1
  obtain ⟨X, hX⟩ : ∃ X, bodyD bs ⟨s.pos, s.cells, s.out⟩ 108 (s.pos + 1) = X := ⟨_, rfl⟩
  rw [hX]
  have HX : Hid (X = _) := Lib.hid hX.symm
  clear h hs hA hT H1 ht hX hlt
  go_enter Tryd.func31, Tryd.ntmps31
  go_wp2_with fail
  refine (HH1.out).mono ?_
  rintro r w1 ⟨rfl, h1⟩
  have HW1 : Hid (Rw B (w.alloc kidsO) rb bv sv bs w1 sv { s with tag := s.pos, pos := s.pos + 1 }) := Lib.hid h1
  clear h1
  have H9 := Lib.hid (list_any B rb bv sv bs _ hlen hpos w1 HW1.out.rp HS.out hcl)
  go_wp2_with fail
  refine (H9.out).mono ?_
  intro r w9 h9
  have h9' : OneP B w1 rb bv sv bs X r w9 := by
    rw [show X = listD bs { s with tag := s.pos, pos := s.pos + 1 } from HX.out]
    exact h9
  obtain ⟨⟨n, b, rfl⟩, hm, hp⟩ := one_list (X := X) H.out HW1.out h9'
  clear h9'
  clear h9
  obtain ⟨b0, b1, f0, f1⟩ := kids_cells hm
  have HM := Lib.hid hm
  have HP := Lib.hid hp
  clear hm hp
  go_wp2_with fail
  exact kids_ret rfl _ _ rfl rfl HM.out H.out (HP.out _ (fr_two _ _ _ _))

set_option maxHeartbeats 3200000 in
set_option maxRecDepth 100000 in
theorem one_109 (B rb : Nat) (bv sv : Value) (bs : List UInt8) (s : Pr) (hlen : bs.length ≤ 1048576) (hpos : 1 ≤ bs.length) (w : World) (h : Rp B w rb bv sv bs s) (hs : s.why = 0) (hcl : s.cells ≤ 1024) (hol : s.out.length ≤ 10000000)
    (hT : ∀ W, Below B w W → Lib.Utf8Tabs 0 1 W) (hlt : s.pos < bs.length) (ht : beN (rest bs s.pos 1) = 109) :
    Calls Tryd.prog 31 #[.pointer (some ⟨rb, 0, none⟩)] w (OneP B w rb bv sv bs (bodyD bs ⟨s.pos, s.cells, s.out⟩ 109 (s.pos + 1))) := by
  have hA := h.below (bel_box w kidsO)
  have H1 := first_ok B rb bv sv bs s hlen _ hA hs hlt
  rw [ht] at H1
  unfold kidsO at H1
  have HA := Lib.hid hA
  have HS := Lib.hid hs
  have H := Lib.hid h
  have HT := Lib.hid hT
  have HH1 := Lib.hid H1
  obtain ⟨X, hX⟩ : ∃ X, bodyD bs ⟨s.pos, s.cells, s.out⟩ 109 (s.pos + 1) = X := ⟨_, rfl⟩
  rw [hX]
  have HX : Hid (X = _) := Lib.hid hX.symm
  clear h hs hA hT H1 ht hX hlt
  go_enter Tryd.func31, Tryd.ntmps31
  go_wp2_with fail
  refine (HH1.out).mono ?_
  rintro r w1 ⟨rfl, h1⟩
  have HW1 : Hid (Rw B (w.alloc kidsO) rb bv sv bs w1 sv { s with tag := s.pos, pos := s.pos + 1 }) := Lib.hid h1
  clear h1
  cases hn : numD bs (s.pos + 1) 4 with
  | bad e p =>
    have HF : Hid (X = .bad e p) := Lib.hid (by rw [HX.out, body_109]; rw [hn]; rfl)
    have H2 := Lib.hid (callsBad (number_res B rb bv sv bs _ 4 hlen hpos (by omega) w1 HW1.out.rp HS.out) hn)
    clear hn
    go_wp2_with fail
    refine (H2.out).mono ?_
    rintro r w2 ⟨rfl, hE⟩
    replace hE := Er.behind HW1.out hE
    have H3 := Lib.hid (take_er 0 hE)
    clear hE
    go_wp2_with fail
    refine (H3.out).mono ?_
    rintro r w3 ⟨rfl, hE⟩
    obtain ⟨c5, q1, q2⟩ := hE.why
    have hcv := run_str (rd_nil w3) rfl
    have H9 := Lib.hid fun v u => made_er 8 v u 1 hE
    clear hE
    go_wp2_with fail
    refine (H9.out _ _).mono ?_
    rintro r w9 ⟨rfl, hE⟩
    clear hcv c5
    obtain ⟨hm, hp⟩ := one_er H.out hE HF.out
    clear hE
    obtain ⟨b0, b1, f0, f1⟩ := kids_cells hm
    have HM := Lib.hid hm
    have HP := Lib.hid hp
    clear hm hp
    go_wp2_with fail
    exact kids_ret rfl _ _ rfl rfl HM.out H.out (HP.out _ _ _ (fr_two _ _ _ _))
  | ok n =>
    have hnb : n < 256 ^ 4 := by
      have h1 := numD_ok hn
      have h2 := beN_lt (rest bs (s.pos + 1) 4)
      rw [rest_len h1.1, ← h1.2] at h2
      exact h2
    have HN := Lib.hid hn
    have H2 := Lib.hid (callsOk (number_res B rb bv sv bs _ 4 hlen hpos (by omega) w1 HW1.out.rp HS.out) hn)
    clear hn
    go_wp2_with fail
    refine (H2.out).mono ?_
    rintro r w2 ⟨rfl, h2⟩
    have HW2 := Lib.hid (HW1.out.trans h2)
    clear h2
    cases hl : takeD bs (s.pos + 1 + 4) n with
    | bad e p =>
      have HF : Hid (X = .bad e p) := Lib.hid (by rw [HX.out, body_109]; rw [HN.out]; simp only [Res.bind]; rw [hl])
      have H3 := Lib.hid (callsBad (take_res B rb bv sv bs _ n hlen hpos (by omega) w2 HW2.out.rp HS.out) hl)
      clear hl
      go_wp2_with fail
      refine (H3.out).mono ?_
      rintro r w3 ⟨rfl, hE⟩
      replace hE := Er.behind HW2.out hE
      obtain ⟨c5, q1, q2⟩ := hE.why
      have hcv := run_str (rd_nil w3) rfl
      have H9 := Lib.hid fun v u => made_er 8 v u 1 hE
      clear hE
      go_wp2_with fail
      refine (H9.out _ _).mono ?_
      rintro r w9 ⟨rfl, hE⟩
      clear hcv c5
      obtain ⟨hm, hp⟩ := one_er H.out hE HF.out
      clear hE
      obtain ⟨b0, b1, f0, f1⟩ := kids_cells hm
      have HM := Lib.hid hm
      have HP := Lib.hid hp
      clear hm hp
      go_wp2_with fail
      exact kids_ret rfl _ _ rfl rfl HM.out H.out (HP.out _ _ _ (fr_two _ _ _ _))
    | ok l =>
      have HF : Hid (X = if 1024 < n then .bad 4 s.pos else madeD ⟨s.pos, s.cells, s.out⟩ (s.pos + 1 + 4 + n) s.pos ⟨8, 0, ⟨l.toArray⟩⟩) := Lib.hid (by rw [HX.out, body_109]; rw [HN.out]; simp only [Res.bind]; rw [hl])
      have hll : l.length = n := by
        have h1 := takeD_ok hl
        rw [h1.2]; exact rest_len h1.1
      have H3 := Lib.hid (callsOk (take_res B rb bv sv bs _ n hlen hpos (by omega) w2 HW2.out.rp HS.out) hl)
      obtain ⟨str, hstr⟩ : ∃ str : ByteArray, (⟨l.toArray⟩ : ByteArray) = str := ⟨_, rfl⟩
      have hsz : str.size = n := by rw [← hstr, ba_size, hll]
      rw [hstr] at HF
      have HLL := Lib.hid hll
      have HSTR := Lib.hid hstr
      clear hl hll hstr
      go_wp2_with fail
      refine (H3.out).mono ?_
      rintro r w3 ⟨⟨g, off, cap, rfl, hrd⟩, h3⟩
      have hcv := run_str hrd.now HLL.out
      rw [HSTR.out] at hcv
      have HW3 := Lib.hid (HW2.out.trans h3)
      obtain ⟨_, c2, _, c5⟩ := h3.rp.fld
      simp only at c2 c5
      rw [HS.out] at c5
      clear h3 hrd
      by_cases hbig : 1024 < n
      · have HFB : Hid (X = .bad 4 s.pos) := Lib.hid (by rw [HF.out, if_pos hbig])
        have t1 : decide (1024 < (n : Int)) = true := by simp; omega
        have t2 : decide (1024 < n) = true := by simp; omega
        have H5 := Lib.hid (fail_any B rb bv sv bs _ 4 s.pos w3 HW3.out.rp)
        clear hbig
        go_wp2_with fail
        refine (H5.out).mono ?_
        rintro r w5 ⟨rfl, h5⟩
        have hE : Er B (w.alloc kidsO) rb bv sv bs 4 s.pos w5 := .fail (HW3.out.trans h5) HS.out (by omega)
        clear h5 c2 c5 hcv
        have H9 := Lib.hid fun v u => made_er 8 v u 1 hE
        clear hE
        go_wp2_with fail
        refine (H9.out _ _).mono ?_
        rintro r w9 ⟨rfl, hE⟩
        obtain ⟨hm, hp⟩ := one_er H.out hE HFB.out
        clear hE
        obtain ⟨b0, b1, f0, f1⟩ := kids_cells hm
        have HM := Lib.hid hm
        have HP := Lib.hid hp
        clear hm hp
        go_wp2_with fail
        exact kids_ret rfl _ _ rfl rfl HM.out H.out (HP.out _ _ _ (fr_two _ _ _ _))
      · have HFG : Hid (X = madeD ⟨s.pos, s.cells, s.out⟩ (s.pos + 1 + 4 + n) s.pos ⟨8, 0, str⟩) := Lib.hid (by rw [HF.out, if_neg hbig])
        have t1 : decide (1024 < (n : Int)) = false := by simp; omega
        have t2 : decide (1024 < n) = false := by simp; omega
        clear hbig
        have H9 := Lib.hid (made_res B rb bv sv bs _ 8 0 str _ HW3.out.rp HS.out hcl hol ⟨s.pos, s.cells, s.out⟩ rfl rfl)
        go_wp2_with fail
        refine (H9.out).mono ?_
        intro r w9 h9
        obtain rfl := h9.fst
        obtain ⟨hm, hp⟩ := one_end (X := X) H.out HW3.out h9 0 (HFG.out.trans (made_same _ _ _ _))
        clear h9
        obtain ⟨b0, b1, f0, f1⟩ := kids_cells hm
        have HM := Lib.hid hm
        have HP := Lib.hid hp
        clear hm hp
        go_wp2_with fail
        exact kids_ret rfl _ _ rfl rfl HM.out H.out (HP.out _ (fr_two _ _ _ _))

set_option maxHeartbeats 3200000 in
set_option maxRecDepth 100000 in
theorem one_other (B rb : Nat) (bv sv : Value) (bs : List UInt8) (s : Pr) (hlen : bs.length ≤ 1048576) (_ : 1 ≤ bs.length) (w : World) (h : Rp B w rb bv sv bs s) (hs : s.why = 0) (_hcl : s.cells ≤ 1024) (_hol : s.out.length ≤ 10000000)
    (hT : ∀ W, Below B w W → Lib.Utf8Tabs 0 1 W) (hlt : s.pos < bs.length) (tag : Nat) (ht : beN (rest bs s.pos 1) = tag) (hk : tag ≠ 97 ∧ tag ≠ 98 ∧ tag ≠ 110 ∧ tag ≠ 119 ∧ tag ≠ 118 ∧ tag ≠ 104 ∧ tag ≠ 105 ∧ tag ≠ 106 ∧ tag ≠ 107 ∧ tag ≠ 108 ∧ tag ≠ 109 ∧ tag ≠ 88 ∧ tag ≠ 90) :
    Calls Tryd.prog 31 #[.pointer (some ⟨rb, 0, none⟩)] w (OneP B w rb bv sv bs (bodyD bs ⟨s.pos, s.cells, s.out⟩ tag (s.pos + 1))) := by
  have hA := h.below (bel_box w kidsO)
  have H1 := first_ok B rb bv sv bs s hlen _ hA hs hlt
  rw [ht] at H1
  unfold kidsO at H1
  have HA := Lib.hid hA
  have HS := Lib.hid hs
  have H := Lib.hid h
  have HT := Lib.hid hT
  have HH1 := Lib.hid H1
  obtain ⟨X, hX⟩ : ∃ X, bodyD bs ⟨s.pos, s.cells, s.out⟩ tag (s.pos + 1) = X := ⟨_, rfl⟩
  rw [hX]
  have hb : X = .bad 61 s.pos := by
    obtain ⟨k97, k98, k110, k119, k118, k104, k105, k106, k107, k108, k109, k88, k90⟩ := hk
    rw [← hX]
    unfold bodyD
    rw [if_neg k97, if_neg k98, if_neg k110, if_neg (by omega), if_neg k104, if_neg k105, if_neg k106, if_neg k107, if_neg k108, if_neg k109, if_neg k88, if_neg k90]
  have HF := Lib.hid hb
  have q97 : ((tag : Int) == 97) = false := by simp; omega
  have q98 : ((tag : Int) == 98) = false := by simp; omega
  have q110 : ((tag : Int) == 110) = false := by simp; omega
  have q119 : ((tag : Int) == 119) = false := by simp; omega
  have q118 : ((tag : Int) == 118) = false := by simp; omega
  have q104 : ((tag : Int) == 104) = false := by simp; omega
  have q105 : ((tag : Int) == 105) = false := by simp; omega
  have q106 : ((tag : Int) == 106) = false := by simp; omega
  have q107 : ((tag : Int) == 107) = false := by simp; omega
  have q108 : ((tag : Int) == 108) = false := by simp; omega
  have q109 : ((tag : Int) == 109) = false := by simp; omega
  have q88 : ((tag : Int) == 88) = false := by simp; omega
  have q90 : ((tag : Int) == 90) = false := by simp; omega
  clear h hs hA hT H1 ht hX hlt hk hb
  go_enter Tryd.func31, Tryd.ntmps31
  go_wp2_with fail
  refine (HH1.out).mono ?_
  rintro r w1 ⟨rfl, h1⟩
  have HW1 : Hid (Rw B (w.alloc kidsO) rb bv sv bs w1 sv { s with tag := s.pos, pos := s.pos + 1 }) := Lib.hid h1
  clear h1
  have c2 := HW1.out.rp.fld.2.1
  simp only at c2
  have H5 := Lib.hid (fail_any B rb bv sv bs _ 61 s.pos w1 HW1.out.rp)
  go_wp2_with fail
  refine (H5.out).mono ?_
  rintro r w5 ⟨rfl, h5⟩
  have hE : Er B (w.alloc kidsO) rb bv sv bs 61 s.pos w5 := .fail (HW1.out.trans h5) HS.out (by omega)
  clear h5 c2
  obtain ⟨hm, hp⟩ := one_er H.out hE HF.out
  clear hE
  obtain ⟨b0, b1, f0, f1⟩ := kids_cells hm
  have HM := Lib.hid hm
  have HP := Lib.hid hp
  clear hm hp
  go_wp2_with fail
  exact kids_ret rfl _ _ rfl rfl HM.out H.out (HP.out _ _ _ (fr_two _ _ _ _))

theorem fail_er {B rb : Nat} {w w1 : World} {bv sv : Value} {bs : List UInt8} {e p : Nat} (n m : Nat) (h : Er B w rb bv sv bs e p w1) :
    Calls Tryd.prog 53 #[.pointer (some ⟨rb, 0, none⟩), .int .i64 n, .int .i64 m] w1 fun r w2 => r = .returned (.tuple #[]) ∧ Er B w rb bv sv bs e p w2 := by
  obtain ⟨sv1, s1, h1, hw, hp, he⟩ := h
  refine (fail_any B rb bv sv1 bs s1 n m w1 h1.rp).mono fun r w2 hr => ⟨hr.1, sv1, s1, ?_, hw, hp, he⟩
  have h2 := hr.2
  unfold Pr.fail at h2
  rw [if_neg (by omega)] at h2
  exact h1.trans h2

set_option maxHeartbeats 3200000 in
set_option maxRecDepth 100000 in
theorem one_short (B rb : Nat) (bv sv : Value) (bs : List UInt8) (s : Pr) (hlen : bs.length ≤ 1048576) (w : World) (h : Rp B w rb bv sv bs s) (hs : s.why = 0) (hlt : bs.length < s.pos + 1) (X : Res (Rs × Nat × Bool)) (hX : X = .bad 62 bs.length) :
    Calls Tryd.prog 31 #[.pointer (some ⟨rb, 0, none⟩)] w (OneP B w rb bv sv bs X) := by
  have hA := h.below (bel_box w kidsO)
  have H1 := first_short B rb bv sv bs s hlen _ hA hs hlt
  unfold kidsO at H1
  have HF := Lib.hid hX
  have H := Lib.hid h
  have HH1 := Lib.hid H1
  clear h hs hA H1 hX hlt
  go_enter Tryd.func31, Tryd.ntmps31
  go_wp2_with fail
  refine (HH1.out).mono ?_
  rintro r w1 ⟨rfl, hE⟩
  replace hE : Er B (w.alloc kidsO) rb bv sv bs 62 bs.length w1 := hE
  have hf := hE
  obtain ⟨sv1, s1, h1, _, _, _⟩ := hf
  have c2 := h1.rp.fld.2.1
  have H5 := Lib.hid (fail_er 61 s1.tag hE)
  clear h1 hE
  go_wp2_with fail
  refine (H5.out).mono ?_
  rintro r w5 ⟨rfl, hE⟩
  clear c2
  obtain ⟨hm, hp⟩ := one_er H.out hE HF.out
  clear hE
  obtain ⟨b0, b1, f0, f1⟩ := kids_cells hm
  have HM := Lib.hid hm
  have HP := Lib.hid hp
  clear hm hp
  go_wp2_with fail
  exact kids_ret rfl _ _ rfl rfl HM.out H.out (HP.out _ _ _ (fr_two _ _ _ _))

theorem one_any (B rb : Nat) (bv sv : Value) (bs : List UInt8) (s : Pr) (hlen : bs.length ≤ 1048576) (hpos : 1 ≤ bs.length) (w : World) (h : Rp B w rb bv sv bs s) (hs : s.why = 0) (hcl : s.cells ≤ 1024) (hol : s.out.length ≤ 10000000)
    (hT : ∀ W, Below B w W → Lib.Utf8Tabs 0 1 W) : Calls Tryd.prog 31 #[.pointer (some ⟨rb, 0, none⟩)] w (OneP B w rb bv sv bs (oneD bs ⟨s.pos, s.cells, s.out⟩)) := by
  by_cases hlt : s.pos < bs.length
  · have ho : oneD bs ⟨s.pos, s.cells, s.out⟩ = bodyD bs ⟨s.pos, s.cells, s.out⟩ (beN (rest bs s.pos 1)) (s.pos + 1) := by
      unfold oneD
      rw [show tagD bs s.pos = .ok (beN (rest bs s.pos 1)) from if_neg (by omega)]
      rfl
    rw [ho]
    by_cases k97 : beN (rest bs s.pos 1) = 97
    · rw [k97]; exact one_97 B rb bv sv bs s hlen hpos w h hs hcl hol hT hlt k97
    by_cases k98 : beN (rest bs s.pos 1) = 98
    · rw [k98]; exact one_98 B rb bv sv bs s hlen hpos w h hs hcl hol hT hlt k98
    by_cases k110 : beN (rest bs s.pos 1) = 110
    · rw [k110]; exact one_110 B rb bv sv bs s hlen hpos w h hs hcl hol hT hlt k110
    by_cases k119 : beN (rest bs s.pos 1) = 119
    · rw [k119]; exact one_119 B rb bv sv bs s hlen hpos w h hs hcl hol hT hlt k119
    by_cases k118 : beN (rest bs s.pos 1) = 118
    · rw [k118]; exact one_118 B rb bv sv bs s hlen hpos w h hs hcl hol hT hlt k118
    by_cases k104 : beN (rest bs s.pos 1) = 104
    · rw [k104]; exact one_104 B rb bv sv bs s hlen hpos w h hs hcl hol hT hlt k104
    by_cases k105 : beN (rest bs s.pos 1) = 105
    · rw [k105]; exact one_105 B rb bv sv bs s hlen hpos w h hs hcl hol hT hlt k105
    by_cases k106 : beN (rest bs s.pos 1) = 106
    · rw [k106]; exact one_106 B rb bv sv bs s hlen hpos w h hs hcl hol hT hlt k106
    by_cases k107 : beN (rest bs s.pos 1) = 107
    · rw [k107]; exact one_107 B rb bv sv bs s hlen hpos w h hs hcl hol hT hlt k107
    by_cases k108 : beN (rest bs s.pos 1) = 108
    · rw [k108]; exact one_108 B rb bv sv bs s hlen hpos w h hs hcl hol hT hlt k108
    by_cases k109 : beN (rest bs s.pos 1) = 109
    · rw [k109]; exact one_109 B rb bv sv bs s hlen hpos w h hs hcl hol hT hlt k109
    by_cases k88 : beN (rest bs s.pos 1) = 88
    · rw [k88]; exact one_88 B rb bv sv bs s hlen hpos w h hs hcl hol hT hlt k88
    by_cases k90 : beN (rest bs s.pos 1) = 90
    · rw [k90]; exact one_90 B rb bv sv bs s hlen hpos w h hs hcl hol hT hlt k90
    exact one_other B rb bv sv bs s hlen hpos w h hs hcl hol hT hlt _ rfl ⟨k97, k98, k110, k119, k118, k104, k105, k106, k107, k108, k109, k88, k90⟩
  · exact one_short B rb bv sv bs s hlen w h hs (by omega) _ (by
      unfold oneD
      rw [show tagD bs s.pos = .bad 62 bs.length from if_pos (by omega)]
      rfl)
end Go.Proofs.YtkhjdcnlpablkaaDoor
