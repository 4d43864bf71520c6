/- The program's reader: a string of bytes. Printed by genChars.py. -/
import Derived.Test.YtkhjdcnlpablkaaDoorRef
namespace Go.Proofs.YtkhjdcnlpablkaaDoor
open Go.RowKit
open Go.Lib (byteCells)

theorem cvs_one' (l : List Ce) : ∀ u ∈ cvs l, u.oneCell' = true := by
  intro u hu
  unfold cvs at hu
  obtain ⟨c, hc, hu⟩ := List.mem_flatMap.1 hu
  exact cv_one c u hu
theorem Got.of {B rb : Nat} {w w' : World} {bv sv sv' : Value} {bs : List UInt8} {s' : Pr} {x : Rs} (h : Rw B w rb bv sv bs w' sv' s') (hw : s'.why = 0) (hx : x = ⟨s'.pos, s'.cells, s'.out⟩) : Got B w rb bv sv bs w' x := by
  subst hx
  exact ⟨sv', s'.tag, s'.place, by rw [← hw]; exact h⟩

/-- APPEND of cells that are built on the spot, to what a reader gathers. -/
theorem wpList_cells {w : World} {ops : Array Oper} {rest : List Oper} {o : Oper} {a : Act} {Q : Exit → Act → World → Prop} (s x : Operand) {B rb : Nat} {bv sv : Value} {bs : List UInt8} {st : Pr} (news : List Ce) (vals : List Value) (m b : Nat) (hb : b = w.heap.size)
    (hgd : o.guard = none) (ho : o.op = .call { callee := .builtin .append, args := #[s, x], argTypes := #[24, 24] })
    (hs : a.eval s = sv) (hx : a.eval x = .slice (some ⟨b, 0, none⟩) m m) (h : Rp B w rb bv sv bs st) (hcs : vals = cvs news) (hm : news.length = m) (hl : st.out.length + m ≤ 100000000)
    (k : ∀ ao cap w', w'.cell? ⟨rb, 4, none⟩ = some sv → w'.frozen? ⟨rb, 4, none⟩ = false →
      Rw B w rb bv sv bs (w'.setCell ⟨rb, 4, none⟩ (.slice ao (st.out.length + m) cap)) (.slice ao (st.out.length + m) cap) { st with out := st.out ++ news } → wpList Tryd.prog ops Q rest (a.put o.dst (.slice ao (st.out.length + m) cap)) w') :
    wpList Tryd.prog ops Q (o :: rest) a (w.alloc (.cells vals.toArray 60)) := by
  obtain ⟨i0, hinf, hz0, hz1, hz2⟩ := info_parts Tryd.info60
  subst hcs hm hb
  have hA := h.below (bel_box w (.cells (cvs news).toArray 60))
  refine wpList_append_sl hgd s x 24 ho 60 i0 (.agg #[.int .i64 0, .int .i64 0, .string ByteArray.empty]) 3 32 Tryd.underlying24 hinf hz0 hz1 hz2 rfl (by decide) sv st.out.length (cvs st.out) hs hA.sl ⟨w.heap.size, 0, none⟩ news.length news.length (cvs news) hx
    (cvs_len news) (cells_new w _ 60) (cvs_one' news) (by unfold maxLen; omega) (by omega) ?_
  intro v' w' hsl hfr hown
  obtain ⟨ao, cap, rfl, _, _⟩ := hsl.shape
  have hq := hA.app (c := news) (n' := st.out.length + news.length) (by rw [List.length_append]) hsl hfr (hown.imp id fun e k hk => by rw [e] at hk; cases hk; exact Nat.le_refl _)
  have hne := hA.sl.ne (c := #[bv, .int .i64 st.pos, .int .i64 st.tag, .int .i64 st.cells, sv, .int .i64 st.why, .int .i64 st.place]) hA.blk (by decide)
  have hb3 : w'.heap[rb]? = some (st.blk bv sv) := hfr.at hA.blk (fun e => hne _ e rfl)
  exact k ao cap w' (Pr.cell hb3).2.2.2.2.1 (blk_free hb3 4) (hq.behind (bel_box _ _))

theorem charCs_snoc (l : List UInt8) (k : Nat) (c : UInt8) (h : l[k]? = some c) : charCs (l.take (k + 1)) = charCs (l.take k) ++ [consC, intC (c.toNat : Int)] := by
  unfold charCs
  rw [List.take_add_one, h, Option.toList_some, List.flatMap_append]
  rfl

def charsD (bs : List UInt8) (s : Pr) : Res (Rs × Nat × Bool) :=
  (numD bs s.pos 2).bind fun n => (takeD bs (s.pos + 2) n).bind fun l => if 1024 < s.cells + (2 * n + 1) then .bad 7 s.tag else .ok (⟨s.pos + 2 + n, s.cells + (2 * n + 1), s.out ++ charCs l ++ [nilC]⟩, 0, false)

set_option maxHeartbeats 3200000 in
set_option maxRecDepth 100000 in
theorem chars_any (B rb : Nat) (bv sv : Value) (bs : List UInt8) (s : Pr) (hlen : bs.length ≤ 1048576) (hpos : 1 ≤ bs.length) (w : World) (h : Rp B w rb bv sv bs s) (hs : s.why = 0) (hcl : s.cells ≤ 1024) (hol : s.out.length ≤ 10000000) :
    Calls Tryd.prog 50 #[.pointer (some ⟨rb, 0, none⟩)] w fun r w' => ResP (charsD bs s)
      (fun x => r = .returned (.tuple #[]) ∧ Got B w rb bv sv bs w' x.1 ∧ x.2 = (0, false))
      (fun e p => r = .returned (.tuple #[]) ∧ Er B w rb bv sv bs e p w') := by
  have HS := Lib.hid hs
  have H := Lib.hid h
  have HC := Lib.hid (⟨hcl, hol⟩ : s.cells ≤ 1024 ∧ s.out.length ≤ 10000000)
  have H1 := number_res B rb bv sv bs s 2 hlen hpos (by omega) w h hs
  obtain ⟨X, hX⟩ : ∃ X, charsD bs s = X := ⟨_, rfl⟩
  have HX := Lib.hid (show X = charsD bs s from hX.symm)
  rw [hX]
  clear h hs hX
  cases hk : numD bs s.pos 2 with
  | bad e p =>
    replace H1 := Lib.hid (callsBad H1 hk)
    have HF : Hid (X = .bad e p) := Lib.hid (by rw [HX.out]; unfold charsD; rw [hk]; rfl)
    clear hk
    go_enter Tryd.func50, Tryd.ntmps50
    go_wp2_with fail
    refine (H1.out).mono ?_
    rintro r wx ⟨rfl, hE⟩
    have HNE := Lib.hid (take_er 0 hE)
    clear hE
    go_wp2_with fail
    refine (HNE.out).mono ?_
    rintro r wx ⟨rfl, hE⟩
    clear HNE
    obtain ⟨c5, q1, q2⟩ := hE.why
    have HE := Lib.hid hE
    clear hE
    go_wp2_with fail
    refine bodyPost_ret (results_none rfl _ _ _) rfl ?_
    exact ResP.badI HF.out ⟨rfl, HE.out⟩
  | ok n =>
    replace H1 := Lib.hid (callsOk H1 hk)
    have hkb : n < 65536 := by
      have h1 := numD_ok hk
      have h2 := beN_lt (rest bs s.pos 2)
      rw [rest_len h1.1, ← h1.2] at h2
      exact h2
    cases hl : takeD bs (s.pos + 2) n with
    | bad e q =>
      have HF : Hid (X = .bad e q) := Lib.hid (by rw [HX.out]; unfold charsD; rw [hk]; simp only [Res.bind]; rw [hl])
      have HL := Lib.hid hl
      clear hk hl
      go_enter Tryd.func50, Tryd.ntmps50
      go_wp2_with fail
      refine (H1.out).mono ?_
      rintro r w1 ⟨rfl, h1⟩
      have H2 := Lib.hid (callsBad (take_res B rb bv sv bs _ n hlen hpos (by omega) w1 h1.rp HS.out) HL.out)
      have HW1 := Lib.hid h1
      clear h1
      go_wp2_with fail
      refine (H2.out).mono ?_
      rintro r wx ⟨rfl, hE⟩
      obtain ⟨c5, q1, q2⟩ := hE.why
      have HE := Lib.hid hE
      clear hE
      go_wp2_with fail
      refine bodyPost_ret (results_none rfl _ _ _) rfl ?_
      exact ResP.badI HF.out ⟨rfl, Er.behind HW1.out HE.out⟩
    | ok l =>
      have hll : l.length = n := by
        have h1 := takeD_ok hl
        rw [h1.2]; exact rest_len h1.1
      have HL := Lib.hid hl
      have HLL := Lib.hid hll
      have HF : Hid (X = if 1024 < s.cells + (2 * n + 1) then .bad 7 s.tag else .ok (⟨s.pos + 2 + n, s.cells + (2 * n + 1), s.out ++ charCs l ++ [nilC]⟩, 0, false)) := Lib.hid (by rw [HX.out]; unfold charsD; rw [hk]; simp only [Res.bind]; rw [hl])
      clear hk hl hll
      go_enter Tryd.func50, Tryd.ntmps50
      go_wp2_with fail
      refine (H1.out).mono ?_
      rintro r w1 ⟨rfl, h1⟩
      have H2 := Lib.hid (callsOk (take_res B rb bv sv bs _ n hlen hpos (by omega) w1 h1.rp HS.out) HL.out)
      have HW1 := Lib.hid h1
      clear h1
      go_wp2_with fail
      refine (H2.out).mono ?_
      rintro r w2 ⟨⟨g, off, cap, rfl, hrd⟩, h2⟩
      have HRD := Lib.hid hrd
      have HW2 := Lib.hid (HW1.out.trans h2)
      have HR2 := Lib.hid h2.rp
      obtain ⟨_, c2, c3, c5⟩ := h2.rp.fld
      simp only at c2 c3 c5
      rw [HS.out] at c5
      clear h2 hrd
      obtain ⟨m, hm⟩ : ∃ m, s.cells = m := ⟨_, rfl⟩
      rw [hm] at c3 hcl
      have HM := Lib.hid hm
      clear hm
      obtain ⟨k, hk⟩ : ∃ k, 2 * n + 1 = k := ⟨_, rfl⟩
      have e1 : IntKind.i64.wrap (2 * (n : Int)) = 2 * (n : Int) := wraps_i64 _ (by omega) (by omega)
      have e2 : IntKind.i64.wrap (2 * (n : Int) + 1) = (k : Int) := by rw [wraps_i64 _ (by omega) (by omega)]; omega
      have e3 : IntKind.i64.wrap (1024 - (m : Int)) = 1024 - (m : Int) := wraps_i64 _ (by omega) (by omega)
      have e6 : 2 * (n : Int) + 1 = (k : Int) := by omega
      have e7 : IntKind.i64.wrap (k : Int) = (k : Int) := wraps_i64 _ (by omega) (by omega)
      have HK := Lib.hid hk
      by_cases hbig : 1024 < m + k
      · have HFB : Hid (X = .bad 7 s.tag) := Lib.hid (by rw [HF.out, if_pos (by rw [HM.out, hk]; exact hbig)])
        have t1 : decide (1024 - (m : Int) < (k : Int)) = true := by simp; omega
        have H5 := Lib.hid (fail_any B rb bv sv bs _ 7 s.tag w2 HR2.out)
        clear hk hbig
        go_wp2_with fail
        refine (H5.out).mono ?_
        rintro r w5 ⟨rfl, h5⟩
        have HE : Hid (Er B w rb bv sv bs 7 s.tag w5) := Lib.hid (.fail (HW2.out.trans h5) HS.out (by omega))
        clear h5
        go_wp2_with fail
        refine bodyPost_ret (results_none rfl _ _ _) rfl ?_
        exact ResP.badI HFB.out ⟨rfl, HE.out⟩
      · have HFG : Hid (X = .ok (⟨s.pos + 2 + n, s.cells + (2 * n + 1), s.out ++ charCs l ++ [nilC]⟩, 0, false)) := Lib.hid (by rw [HF.out, if_neg (by rw [HM.out, hk]; exact hbig)])
        have t1 : decide (1024 - (m : Int) < (k : Int)) = false := by simp; omega
        obtain ⟨mk, hmk⟩ : ∃ mk, m + k = mk := ⟨_, rfl⟩
        have e8 : IntKind.i64.wrap ((m : Int) + (k : Int)) = (mk : Int) := by rw [wraps_i64 _ (by omega) (by omega)]; omega
        have e9 : (m : Int) + (k : Int) = (mk : Int) := by omega
        have e10 : IntKind.i64.wrap (mk : Int) = (mk : Int) := wraps_i64 _ (by omega) (by omega)
        have f3 := blk_free HR2.out.blk 3
        have hu := HR2.out.upd (s' := { s with pos := s.pos + 2 + n, cells := mk }) ((Fr.refl (fun k => k = rb) w2).setCell (p := ⟨rb, 3, none⟩) (.inl rfl) (.int .i64 (mk : Int))) (by rw [blk_set HR2.out.blk 3 _]; rfl) rfl HR2.out.le
        have HU := Lib.hid hu
        have HMK := Lib.hid hmk
        clear hk hbig hu hmk
        go_wp2_with fail
        generalize w2.setCell ⟨rb, 3, none⟩ (.int .i64 (mk : Int)) = w3 at HU ⊢
        clear c2 c3 c5 f3
        go_loopg [45] n (fun g s45 wr => ∃ (i : Nat) (sv2 : Value) (O : List Ce), s45 = .int .i64 i ∧ i + g = n ∧ Rw B w2 rb bv sv bs wr sv2 { s with pos := s.pos + 2 + n, cells := mk, out := O } ∧ Hid (O = s.out ++ charCs (l.take i)) ∧ O.length = s.out.length + 2 * i)
        case atStart => exact ⟨0, sv, s.out, rfl, by omega, HU.out, Lib.hid (by simp [charCs]), by omega⟩
        case round =>
          obtain ⟨i, sv2, O, rfl, hig, hR, HO, hOl⟩ := hrel
          obtain ⟨n0, hn0⟩ : ∃ n0, O.length = n0 := ⟨_, rfl⟩
          have hsl := hR.rp.sl
          simp only at hsl
          rw [hn0] at hsl
          obtain ⟨ao, cp, rfl, _, _⟩ := hsl.shape
          have c4 := (Pr.cell hR.rp.blk).2.2.2.2.1
          have HR := Lib.hid hR
          have HN0 := Lib.hid hn0
          clear hsl hR
          cases gk with
          | zero =>
            obtain rfl : i = n := by omega
            have HFE : Hid (X = .ok (⟨s.pos + 2 + i, mk, O ++ [nilC]⟩, 0, false)) := Lib.hid (by
              rw [HFG.out, HM.out, HK.out, HMK.out, HO.out, List.take_of_length_le (by rw [HLL.out]; omega)])
            go_wp2_with (at_builtin; refine wpList_cells (.tmp 67) (.tmp 69) [nilC] _ 1 _ rfl rfl rfl rfl rfl HR.out.rp rfl rfl (by simp only; omega) ?next)
            case next =>
              intro ao2 cp2 w5 d4 f4 hq
              have HQ := Lib.hid hq
              clear hq
              go_wp2_with fail
              go_end0
              exact ResP.okI HFE.out ⟨rfl, Got.of (HW2.out.trans (HR.out.trans HQ.out)) HS.out rfl, rfl⟩
          | succ g' =>
            have hil : i < l.length := by have := HLL.out; omega
            obtain ⟨c, hc⟩ : ∃ c, l[i]? = some c := ⟨l[i], List.getElem?_eq_getElem _⟩
            have hck := cells_byte (HRD.out.step (HR.out.bel HR2.out)).now hc HLL.out
            have HCS : Hid (O ++ [consC, intC (c.toNat : Int)] = s.out ++ charCs (l.take (i + 1))) := Lib.hid (by rw [HO.out, charCs_snoc l i c hc, List.append_assoc])
            obtain ⟨y, hy⟩ : ∃ y, c.toNat = y := ⟨_, rfl⟩
            rw [hy] at hck HCS
            have hyb : y < 256 := by rw [← hy]; exact UInt8.toNat_lt c
            have hkz : (i : Int) < (n : Int) := by omega
            have HIG := Lib.hid hig
            clear hc hy hil
            go_wp2_with (at_builtin; refine wpList_cells (.tmp 53) (.tmp 58) [consC, intC (y : Int)] _ 2 _ rfl rfl rfl rfl rfl HR.out.rp rfl rfl (by simp only; omega) ?next)
            case next =>
              intro ao2 cp2 w5 d4 f4 hq
              have HQ := Lib.hid hq
              clear hq
              go_wp2_with fail
              go_roundg g'
              case measure => omega
              case rel => exact ⟨i + 1, _, _, by first | rfl | (congr 1; omega), by have := HIG.out; omega, HR.out.trans HQ.out, HCS, by simp; omega⟩
end Go.Proofs.YtkhjdcnlpablkaaDoor
