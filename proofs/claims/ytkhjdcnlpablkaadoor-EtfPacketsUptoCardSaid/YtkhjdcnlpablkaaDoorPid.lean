/- The program's reader: a cell or a fault; a process; four bytes as a number. -/
import Derived.Test.YtkhjdcnlpablkaaDoorBig
import Derived.BigQuiet
namespace Go.Proofs.YtkhjdcnlpablkaaDoor
open Go.RowKit
open Go.Lib (byteCells)

/-- What a term that is read leaves. -/
def Got (B : Nat) (w : World) (rb : Nat) (bv sv : Value) (bs : List UInt8) (w' : World) (x : Rs) : Prop := ∃ sv' tg pl, Rw B w rb bv sv bs w' sv' ⟨x.pos, tg, x.cells, x.out, 0, pl⟩

theorem Got.behind {B rb : Nat} {w w' w2 : World} {bv sv sv' : Value} {bs : List UInt8} {s' : Pr} {x : Rs} (h : Rw B w rb bv sv bs w' sv' s') (k : Got B w' rb bv sv' bs w2 x) : Got B w rb bv sv bs w2 x := by
  obtain ⟨a, b, c, h1⟩ := k
  exact ⟨a, b, c, h.trans h1⟩

theorem made_res (B rb : Nat) (bv sv : Value) (bs : List UInt8) (s : Pr) (k n : Int) (str : ByteArray) (w : World) (h : Rp B w rb bv sv bs s) (hs : s.why = 0) (hc : s.cells ≤ 1024) (hol : s.out.length ≤ 10000000)
    (s0 : Rs) (h0 : s0.cells = s.cells) (h1 : s0.out = s.out) :
    Calls Tryd.prog 46 #[.pointer (some ⟨rb, 0, none⟩), .agg #[.int .i64 k, .int .i64 n, .string str], .int .i64 1] w fun r w' => ResP (madeD s0 s.pos s.tag ⟨k, n, str⟩)
      (fun x => r = .returned (.tuple #[]) ∧ Got B w rb bv sv bs w' x.1 ∧ x.2 = (0, false)) (fun e p => r = .returned (.tuple #[]) ∧ Er B w rb bv sv bs e p w') := by
  refine (made_any B rb bv sv bs s k n str w h hs hc hol).mono fun r w' hr => ?_
  by_cases hf : 1024 < s.cells + 1
  · rw [if_pos hf] at hr
    exact ResP.badI (by unfold madeD; rw [h0, if_pos hf]) hr
  · rw [if_neg hf] at hr
    obtain ⟨rfl, sv', hw⟩ := hr
    refine ResP.okI (by unfold madeD; rw [h0, if_neg hf, h1]) ⟨rfl, ⟨sv', s.tag, s.place, ?_⟩, rfl⟩
    rw [← hs]
    exact hw

theorem or_i64 (a b : Nat) (ha : a < 4294967296) (hb : b < 4294967296) : bits .or .i64 (IntKind.i64.wrap ((a : Int) * 4294967296)) (b : Int) = IntKind.i64.wrap ((b + a * 4294967296 : Nat) : Int) := by
  have h1 : (BitVec.ofInt IntKind.i64.bits (IntKind.i64.wrap ((a : Int) * 4294967296))).toNat = a * 4294967296 := by
    show (BitVec.ofInt 64 _).toNat = _
    rw [BitVec.toNat_ofInt, IntKind.wrap_i64]
    simp only [Nat.reducePow]
    omega
  have h2 : (BitVec.ofInt IntKind.i64.bits (b : Int)).toNat = b := by
    show (BitVec.ofInt 64 _).toNat = _
    rw [BitVec.toNat_ofInt]
    simp only [Nat.reducePow]
    omega
  unfold bits
  simp only [BitVec.toNat_or]
  rw [h1, h2]
  have := Nat.two_pow_add_eq_or_of_lt (i := 32) (b := b) (by simpa using hb) a
  rw [show a * 4294967296 = 2 ^ 32 * a by rw [Nat.mul_comm], ← this, Nat.add_comm]

section
variable {B rb : Nat} {w w1 : World} {bv sv : Value} {bs : List UInt8} {e p : Nat}
/-- The tag's place is written behind a fault. -/
theorem Er.setTag (h : Er B w rb bv sv bs e p w1) (t : Nat) : (∃ m : Nat, w1.cell? ⟨rb, 2, none⟩ = some (.int .i64 m)) ∧ w1.frozen? ⟨rb, 2, none⟩ = false ∧ Er B w rb bv sv bs e p (w1.setCell ⟨rb, 2, none⟩ (.int .i64 t)) := by
  obtain ⟨sv1, s1, h1, hw, hp, he⟩ := h
  refine ⟨⟨_, h1.rp.fld.2.1⟩, blk_free h1.rp.blk 2, sv1, { s1 with tag := t }, h1.trans (h1.rp.upd ((Fr.refl (fun k => k = rb) w1).setCell (p := ⟨rb, 2, none⟩) (.inl rfl) _) (by rw [blk_set h1.rp.blk 2 _]; rfl) rfl h1.rp.le), hw, hp, he⟩
theorem Rp.setTag {s : Pr} (h : Rp B w rb bv sv bs s) (t : Nat) : w.frozen? ⟨rb, 2, none⟩ = false ∧ Rw B w rb bv sv bs (w.setCell ⟨rb, 2, none⟩ (.int .i64 t)) sv { s with tag := t } :=
  ⟨blk_free h.blk 2, h.upd ((Fr.refl (fun k => k = rb) w).setCell (p := ⟨rb, 2, none⟩) (.inl rfl) _) (by rw [blk_set h.blk 2 _]; rfl) rfl h.le⟩
end
/-! ### pid -/
theorem w64 (x : Int) : wrap64 x = IntKind.i64.wrap x := by rw [IntKind.wrap_i64]; unfold wrap64; rfl
section
variable {α : Type} {B rb : Nat} {w w1 w2 : World} {bv sv sv1 : Value} {bs : List UInt8} {s1 : Pr} {x : Res (Rs × Nat × Bool)}
theorem ResP.both {α : Type} {x : Res α} {c : Prop} {P : α → Prop} {Q : Nat → Nat → Prop} (h : ResP x (fun a => c ∧ P a) (fun e p => c ∧ Q e p)) : c ∧ ResP x P Q := by
  cases x with
  | ok a => exact ⟨h.1, h.2⟩
  | bad e p => exact ⟨h.1, h.2⟩
theorem ResP.and {α : Type} {x : Res α} {c : Prop} {P : α → Prop} {Q : Nat → Nat → Prop} (h : ResP x P Q) (hc : c) : ResP x (fun a => c ∧ P a) (fun e p => c ∧ Q e p) := by
  cases x with
  | ok a => exact ⟨hc, h⟩
  | bad e p => exact ⟨hc, h⟩
theorem ResP.behind (hw : Rw B w rb bv sv bs w1 sv1 s1) (h : ResP x (fun a => Got B w1 rb bv sv1 bs w2 a.1 ∧ a.2 = (0, false)) (fun e p => Er B w1 rb bv sv1 bs e p w2)) :
    ResP x (fun a => Got B w rb bv sv bs w2 a.1 ∧ a.2 = (0, false)) (fun e p => Er B w rb bv sv bs e p w2) := by
  cases x with
  | ok a => exact ⟨h.1.behind hw, h.2⟩
  | bad e p => exact Er.behind hw h
end
set_option maxHeartbeats 3200000 in
set_option maxRecDepth 100000 in
theorem pid_any (B rb : Nat) (bv sv : Value) (bs : List UInt8) (s : Pr) (s0 : Rs) (hlen : bs.length ≤ 1048576) (hpos : 1 ≤ bs.length) (w : World) (h : Rp B w rb bv sv bs s) (hs : s.why = 0) (hcl : s.cells ≤ 1024) (hol : s.out.length ≤ 10000000)
    (hT : ∀ W, Below B w W → Lib.Utf8Tabs 0 1 W) (h0 : s0.cells = s.cells) (h1 : s0.out = s.out) :
    Calls Tryd.prog 54 #[.pointer (some ⟨rb, 0, none⟩)] w fun r w' => ResP ((pidD bs s.pos s.tag).bind fun x => madeD s0 x.2 s.tag ⟨4, x.1, ⟨#[]⟩⟩)
      (fun x => r = .returned (.tuple #[]) ∧ Got B w rb bv sv bs w' x.1 ∧ x.2 = (0, false))
      (fun e p => r = .returned (.tuple #[]) ∧ Er B w rb bv sv bs e p w') := by
  have HS := Lib.hid hs
  have HC := Lib.hid (⟨hcl, hol⟩ : s.cells ≤ 1024 ∧ s.out.length ≤ 10000000)
  have H01 := Lib.hid (⟨h0, h1⟩ : s0.cells = s.cells ∧ s0.out = s.out)
  have c2 := h.fld.2.1
  have H1 := host_any B rb bv sv bs s hlen hpos w h hs hT
  obtain ⟨tg, htg⟩ : ∃ tg, s.tag = tg := ⟨_, rfl⟩
  rw [htg] at c2 ⊢
  have HTG := Lib.hid htg
  obtain ⟨X, hX⟩ : ∃ X, ((pidD bs s.pos tg).bind fun x => madeD s0 x.2 tg ⟨4, x.1, ⟨#[]⟩⟩) = X := ⟨_, rfl⟩
  have HX := Lib.hid (show X = (pidD bs s.pos tg).bind fun x => madeD s0 x.2 tg ⟨4, x.1, ⟨#[]⟩⟩ from hX.symm)
  rw [hX]
  clear h hs hT hcl hol h0 h1 hX htg
  cases hh : hostD bs s.pos with
  | bad e p =>
    replace H1 := Lib.hid (callsBad H1 hh)
    have HF : Hid (X = .bad e p) := Lib.hid (by rw [HX.out]; unfold pidD; rw [hh]; rfl)
    clear hh
    go_enter Tryd.func54, Tryd.ntmps54
    go_wp2_with fail
    refine (H1.out).mono ?_
    rintro r wx ⟨rfl, hE⟩
    have HNE := Lib.hid (number_er 4 hE)
    clear hE
    go_wp2_with fail
    refine (HNE.out).mono ?_
    rintro r wx ⟨rfl, hE⟩
    clear HNE
    have HNE := Lib.hid (number_er 4 hE)
    clear hE
    go_wp2_with fail
    refine (HNE.out).mono ?_
    rintro r wx ⟨rfl, hE⟩
    clear HNE
    have HNE := Lib.hid (number_er 4 hE)
    clear hE
    go_wp2_with fail
    refine (HNE.out).mono ?_
    rintro r wx ⟨rfl, hE⟩
    clear HNE
    obtain ⟨c5, q1, q2⟩ := hE.why
    obtain ⟨⟨mt, c2⟩, f2, hE2⟩ := hE.setTag tg
    have H9 := Lib.hid fun v => made_er 4 v ⟨#[]⟩ 1 hE2
    clear hE hE2
    go_wp2_with fail
    refine (H9.out _).mono ?_
    rintro r w9 ⟨rfl, hE⟩
    have HE := Lib.hid hE
    clear hE c2 c5
    go_wp2_with fail
    go_end0
    exact ResP.badI HF.out ⟨rfl, HE.out⟩
  | ok p =>
    replace H1 := Lib.hid (callsOk H1 hh)
    cases hn1 : numD bs p 4 with
    | bad e q =>
      have HF : Hid (X = .bad e q) := Lib.hid (by rw [HX.out]; unfold pidD; rw [hh]; simp only [Res.bind]; rw [hn1])
      have HN1 := Lib.hid hn1
      clear hh hn1
      go_enter Tryd.func54, Tryd.ntmps54
      go_wp2_with fail
      refine (H1.out).mono ?_
      rintro r w1 ⟨rfl, h1⟩
      have H2 := Lib.hid (callsBad (number_res B rb bv sv bs _ 4 hlen hpos (by omega) w1 h1.rp HS.out) HN1.out)
      have HW1 := Lib.hid h1
      clear h1
      go_wp2_with fail
      refine (H2.out).mono ?_
      rintro r wx ⟨rfl, hE⟩
      have HNE := Lib.hid (number_er 4 hE)
      clear hE
      go_wp2_with fail
      refine (HNE.out).mono ?_
      rintro r wx ⟨rfl, hE⟩
      clear HNE
      have HNE := Lib.hid (number_er 4 hE)
      clear hE
      go_wp2_with fail
      refine (HNE.out).mono ?_
      rintro r wx ⟨rfl, hE⟩
      clear HNE
      obtain ⟨c5, q1, q2⟩ := hE.why
      obtain ⟨⟨mt, c2⟩, f2, hE2⟩ := hE.setTag tg
      have H9 := Lib.hid fun v => made_er 4 v ⟨#[]⟩ 1 hE2
      clear hE hE2
      go_wp2_with fail
      refine (H9.out _).mono ?_
      rintro r w9 ⟨rfl, hE⟩
      have HE := Lib.hid hE
      clear hE c2 c5
      go_wp2_with fail
      go_end0
      exact ResP.badI HF.out ⟨rfl, Er.behind HW1.out HE.out⟩
    | ok id =>
      have HN1 := Lib.hid hn1
      have hid4 : id < 4294967296 := by
        have h1 := numD_ok hn1
        have h2 := beN_lt (rest bs p 4)
        rw [rest_len h1.1, ← h1.2] at h2
        exact h2
      cases hn2 : numD bs (p + 4) 4 with
      | bad e q =>
        have HF : Hid (X = .bad e q) := Lib.hid (by rw [HX.out]; unfold pidD; rw [hh]; simp only [Res.bind]; rw [hn1]; simp only; rw [hn2])
        have HN2 := Lib.hid hn2
        clear hh hn1 hn2
        go_enter Tryd.func54, Tryd.ntmps54
        go_wp2_with fail
        refine (H1.out).mono ?_
        rintro r w1 ⟨rfl, h1⟩
        have H2 := Lib.hid (callsOk (number_res B rb bv sv bs _ 4 hlen hpos (by omega) w1 h1.rp HS.out) HN1.out)
        have HW1 := Lib.hid h1
        clear h1
        go_wp2_with fail
        refine (H2.out).mono ?_
        rintro r w2 ⟨rfl, h2⟩
        have H3 := Lib.hid (callsBad (number_res B rb bv sv bs _ 4 hlen hpos (by omega) w2 h2.rp HS.out) HN2.out)
        have HW2 := Lib.hid (HW1.out.trans h2)
        clear h2
        go_wp2_with fail
        refine (H3.out).mono ?_
        rintro r wx ⟨rfl, hE⟩
        have HNE := Lib.hid (number_er 4 hE)
        clear hE
        go_wp2_with fail
        refine (HNE.out).mono ?_
        rintro r wx ⟨rfl, hE⟩
        clear HNE
        obtain ⟨c5, q1, q2⟩ := hE.why
        obtain ⟨⟨mt, c2⟩, f2, hE2⟩ := hE.setTag tg
        have H9 := Lib.hid fun v => made_er 4 v ⟨#[]⟩ 1 hE2
        clear hE hE2
        go_wp2_with fail
        refine (H9.out _).mono ?_
        rintro r w9 ⟨rfl, hE⟩
        have HE := Lib.hid hE
        clear hE c2 c5
        go_wp2_with fail
        go_end0
        exact ResP.badI HF.out ⟨rfl, Er.behind HW2.out HE.out⟩
      | ok ser =>
        have HN2 := Lib.hid hn2
        have hser4 : ser < 4294967296 := by
          have h1 := numD_ok hn2
          have h2 := beN_lt (rest bs (p + 4) 4)
          rw [rest_len h1.1, ← h1.2] at h2
          exact h2
        cases hn3 : numD bs (p + 8) 4 with
        | bad e q =>
          have HF : Hid (X = .bad e q) := Lib.hid (by rw [HX.out]; unfold pidD; rw [hh]; simp only [Res.bind]; rw [hn1]; simp only; rw [hn2]; simp only; rw [hn3])
          have HN3 := Lib.hid hn3
          clear hh hn1 hn2 hn3
          go_enter Tryd.func54, Tryd.ntmps54
          go_wp2_with fail
          refine (H1.out).mono ?_
          rintro r w1 ⟨rfl, h1⟩
          have H2 := Lib.hid (callsOk (number_res B rb bv sv bs _ 4 hlen hpos (by omega) w1 h1.rp HS.out) HN1.out)
          have HW1 := Lib.hid h1
          clear h1
          go_wp2_with fail
          refine (H2.out).mono ?_
          rintro r w2 ⟨rfl, h2⟩
          have H3 := Lib.hid (callsOk (number_res B rb bv sv bs _ 4 hlen hpos (by omega) w2 h2.rp HS.out) HN2.out)
          have HW2 := Lib.hid (HW1.out.trans h2)
          clear h2
          go_wp2_with fail
          refine (H3.out).mono ?_
          rintro r w3 ⟨rfl, h3⟩
          have H4 := Lib.hid (callsBad (number_res B rb bv sv bs _ 4 hlen hpos (by omega) w3 h3.rp HS.out) HN3.out)
          have HW3 := Lib.hid (HW2.out.trans h3)
          clear h3
          go_wp2_with fail
          refine (H4.out).mono ?_
          rintro r wx ⟨rfl, hE⟩
          obtain ⟨c5, q1, q2⟩ := hE.why
          obtain ⟨⟨mt, c2⟩, f2, hE2⟩ := hE.setTag tg
          have H9 := Lib.hid fun v => made_er 4 v ⟨#[]⟩ 1 hE2
          clear hE hE2
          go_wp2_with fail
          refine (H9.out _).mono ?_
          rintro r w9 ⟨rfl, hE⟩
          have HE := Lib.hid hE
          clear hE c2 c5
          go_wp2_with fail
          go_end0
          exact ResP.badI HF.out ⟨rfl, Er.behind HW3.out HE.out⟩
        | ok z =>
          have HN3 := Lib.hid hn3
          have HF : Hid (X = (if 256 < ser ∨ id + ser * 4294967296 < 1 ∨ 1099511627776 < id + ser * 4294967296 then Res.bad 1 tg else .ok (((id + ser * 4294967296 : Nat) : Int), p + 12)).bind fun x => madeD s0 x.2 tg ⟨4, x.1, ⟨#[]⟩⟩) := Lib.hid (by rw [HX.out]; unfold pidD; rw [hh]; simp only [Res.bind]; rw [hn1]; simp only; rw [hn2]; simp only; rw [hn3])
          have hor := or_i64 ser id hser4 hid4
          obtain ⟨v, hv⟩ : ∃ v, IntKind.i64.wrap ((id + ser * 4294967296 : Nat) : Int) = v := ⟨_, rfl⟩
          rw [hv] at hor
          have hor2 : bits .or .i64 (wrap64 ((ser : Int) * 4294967296)) (id : Int) = v := by rw [← hor, w64]
          have hv2 : v = (if id + ser * 4294967296 < 9223372036854775808 then ((id + ser * 4294967296 : Nat) : Int) else ((id + ser * 4294967296 : Nat) : Int) - 18446744073709551616) := by rw [← hv, IntKind.wrap_i64]; split <;> omega
          have HV := Lib.hid hv2
          clear hh hn1 hn2 hn3 hv
          go_enter Tryd.func54, Tryd.ntmps54
          go_wp2_with fail
          refine (H1.out).mono ?_
          rintro r w1 ⟨rfl, h1⟩
          have H2 := Lib.hid (callsOk (number_res B rb bv sv bs _ 4 hlen hpos (by omega) w1 h1.rp HS.out) HN1.out)
          have HW1 := Lib.hid h1
          clear h1
          go_wp2_with fail
          refine (H2.out).mono ?_
          rintro r w2 ⟨rfl, h2⟩
          have H3 := Lib.hid (callsOk (number_res B rb bv sv bs _ 4 hlen hpos (by omega) w2 h2.rp HS.out) HN2.out)
          have HW2 := Lib.hid (HW1.out.trans h2)
          clear h2
          go_wp2_with fail
          refine (H3.out).mono ?_
          rintro r w3 ⟨rfl, h3⟩
          have H4 := Lib.hid (callsOk (number_res B rb bv sv bs _ 4 hlen hpos (by omega) w3 h3.rp HS.out) HN3.out)
          have HW3 := Lib.hid (HW2.out.trans h3)
          clear h3
          go_wp2_with fail
          refine (H4.out).mono ?_
          rintro r w4 ⟨rfl, h4⟩
          have HW4 := Lib.hid (HW3.out.trans h4)
          have c5 := h4.rp.fld.2.2.2
          simp only at c5
          rw [HS.out] at c5
          by_cases hbad : 256 < ser ∨ id + ser * 4294967296 < 1 ∨ 1099511627776 < id + ser * 4294967296
          · have HFB : Hid (X = .bad 1 tg) := Lib.hid (by rw [HF.out, if_pos hbad]; rfl)
            have H5 := Lib.hid (fail_any B rb bv sv bs _ 1 tg w4 h4.rp)
            have hvb : v < 1 ∨ 1099511627776 < v := by rw [hv2]; split <;> omega
            have s1 : decide (1099511627776 < v) = (decide (1099511627776 < v)) := rfl
            clear h4 hbad hv2 s1 hid4 hser4
            by_cases hlow : v < 1
            · have t1 : decide (v < 1) = true := by simp; omega
              go_wp2_with fail
              refine (H5.out).mono ?_
              rintro r w5 ⟨rfl, h5⟩
              have hE : Er B w rb bv sv bs 1 tg w5 := .fail (HW4.out.trans h5) HS.out (by omega)
              clear h5 c5
              obtain ⟨c5, q1, q2⟩ := hE.why
              obtain ⟨⟨mt, c2⟩, f2, hE2⟩ := hE.setTag tg
              have H9 := Lib.hid fun v => made_er 4 v ⟨#[]⟩ 1 hE2
              clear hE hE2
              go_wp2_with fail
              refine (H9.out _).mono ?_
              rintro r w9 ⟨rfl, hE⟩
              have HE := Lib.hid hE
              clear hE c2 c5
              go_wp2_with fail
              go_end0
              exact ResP.badI HFB.out ⟨rfl, HE.out⟩
            · have t1 : decide (v < 1) = false := by simp; omega
              have t2 : decide (1099511627776 < v) = true := by simp; omega
              go_wp2_with fail
              refine (H5.out).mono ?_
              rintro r w5 ⟨rfl, h5⟩
              have hE : Er B w rb bv sv bs 1 tg w5 := .fail (HW4.out.trans h5) HS.out (by omega)
              clear h5 c5
              obtain ⟨c5, q1, q2⟩ := hE.why
              obtain ⟨⟨mt, c2⟩, f2, hE2⟩ := hE.setTag tg
              have H9 := Lib.hid fun v => made_er 4 v ⟨#[]⟩ 1 hE2
              clear hE hE2
              go_wp2_with fail
              refine (H9.out _).mono ?_
              rintro r w9 ⟨rfl, hE⟩
              have HE := Lib.hid hE
              clear hE c2 c5
              go_wp2_with fail
              go_end0
              exact ResP.badI HFB.out ⟨rfl, HE.out⟩
          · have HFB : Hid (X = madeD s0 (p + 12) tg ⟨4, ((id + ser * 4294967296 : Nat) : Int), ⟨#[]⟩⟩) := Lib.hid (by rw [HF.out, if_neg hbad]; rfl)
            have hvok : 1 ≤ v ∧ v ≤ 1099511627776 := by rw [hv2]; split <;> omega
            have hvn : v = ((id + ser * 4294967296 : Nat) : Int) := by rw [hv2, if_pos (by omega)]
            have t1 : decide (v < 1) = false := by simp; omega
            have t2 : decide (1099511627776 < v) = false := by simp; omega
            obtain ⟨f2, hu⟩ := h4.rp.setTag tg
            have d2 := h4.rp.fld.2.1
            simp only at d2
            have H5 := Lib.hid (made_res B rb bv sv bs _ 4 v ⟨#[]⟩ _ hu.rp HS.out HC.out.1 HC.out.2 s0 H01.out.1 H01.out.2)
            have HU := Lib.hid (HW4.out.trans hu)
            rw [← hvn] at HFB
            clear h4 hbad hv2 hid4 hser4 hvok hvn hu
            go_wp2_with fail
            refine (H5.out).mono ?_
            intro r w5 h5
            obtain ⟨rfl, h5⟩ := ResP.both h5
            simp only [true_and] at h5
            rw [← HFB.out] at h5
            have HH5 := Lib.hid (ResP.behind HU.out h5)
            clear h5 d2 c5
            go_wp2_with fail
            go_end0
            exact HH5.out.and rfl
end Go.Proofs.YtkhjdcnlpablkaaDoor
