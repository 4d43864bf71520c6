/- The program's Decode. Printed by genDecode.py. -/
import Derived.Test.YtkhjdcnlpablkaaDoorStk
import Derived.WalkMore
import Derived.ScopeJumps
import Derived.Deep.LoopGhost
namespace Go.Proofs.YtkhjdcnlpablkaaDoor
open Go.RowKit
open Go.Lib (byteCells)

theorem Tryd.info56 : (Tryd.prog.info? 56).map (fun i => (i.zero, i.size, i.bytes)) = some (some (.agg #[.int .i64 0, .bool false]), 2, 16) := by kernel_rfl

/-- What holds at each round. -/
structure DI (w0 : World) (rb : Nat) (bv tv sv : Value) (bs : List UInt8) (T : List (Nat × Bool)) (s : Pr) (wr : World) : Prop where
  rp : Rp w0.heap.size wr rb bv sv bs s
  bel : Below w0.heap.size w0 wr
  st : Sl wr 56 2 tv T.length (kx T)
  own : ∀ k, tv.ownBlock = some k → w0.heap.size ≤ k ∧ k ≠ rb ∧ sv.ownBlock ≠ some k

section
variable {w0 wr w' : World} {rb : Nat} {bv tv tv' sv sv' : Value} {bs : List UInt8} {T T' : List (Nat × Bool)} {s s' : Pr}
theorem DI.read (h : DI w0 rb bv tv sv bs T s wr) (k : Rw w0.heap.size wr rb bv sv bs w' sv' s') : DI w0 rb bv tv sv' bs T s' w' :=
  ⟨k.rp, h.bel.trans (k.bel h.rp), k.fr.sl h.st (fun q hq e => by
    have h1 := h.own q hq
    rcases e with e | e
    · exact h1.2.1 e
    · exact h1.2.2 e), fun q hq => by
    have h1 := h.own q hq
    refine ⟨h1.1, h1.2.1, fun e => ?_⟩
    rcases k.nw q e with e | e
    · exact h1.2.2 e
    · have := h.st.lt q hq; omega⟩
theorem DI.todo (h : DI w0 rb bv tv sv bs T s wr) (hf : Fr (fun k => tv.ownBlock = some k) wr w') (hs : Sl w' 56 2 tv' T'.length (kx T')) (hn : ∀ k, tv'.ownBlock = some k → tv.ownBlock = some k ∨ wr.heap.size ≤ k) : DI w0 rb bv tv' sv bs T' s w' := by
  have hb := hf.below h.rp.Ble fun k hk => (h.own k hk).1
  have hlt := h.rp.lt
  refine ⟨⟨hf.at h.rp.blk (fun e => (h.own _ e).2.1 rfl), hf.sl h.rp.sl (fun k hk e => (h.own k e).2.2 hk), h.rp.inp.step hb, h.rp.hB, h.rp.own, h.rp.le⟩, h.bel.trans hb, hs, fun k hk => ?_⟩
  rcases hn k hk with e | e
  · exact h.own k e
  · exact ⟨by have := h.rp.Ble; omega, by omega, fun e' => by have := h.rp.sl.lt k e'; omega⟩
end

/-- What the end makes of it. -/
def finD (n : Nat) : Res Rs → Res (List Ce)
  | .ok s => if s.pos < n then .bad 63 s.pos else .ok s.out
  | .bad e p => .bad e p

/-- A scope in which the run jumps back to one label: what holds at every jump, by a number that falls. -/
theorem wp_scope_ghost {P : Program} {a : Act} {w : World} {Q : Exit → Act → World → Prop} {c rest : Code} (l : Nat) (J : Nat → Act → World → Prop) (hf : findLabel c l = some (Code.skip.seq rest))
    (pass0 : ∀ n a w, J n a w → rest.wp P (Exit.jump l (fun a' w' => ∃ m, m < n ∧ J m a' w') Q) a w)
    (first : (∀ n a w, J n a w → rest.wp P (Exit.jump l (fun a' w' => ∃ m, J m a' w') Q) a w) → c.wp P (Exit.jump l (fun a' w' => ∃ m, J m a' w') Q) a w) : (Code.scope c).wp P Q a w := by
  have hmin : ∀ a w, ∃ n, (∃ m, J m a w) → J n a w ∧ ∀ m, J m a w → n ≤ m := fun a w => by
    by_cases h : ∃ m, J m a w
    · obtain ⟨m, hm⟩ := h
      induction m using Nat.strongRecOn with
      | _ m ih =>
        by_cases h2 : ∃ k, k < m ∧ J k a w
        · obtain ⟨k, hk, hj⟩ := h2
          exact ih k hk hj
        · exact ⟨m, fun _ => ⟨hm, fun k hk => by
            by_cases h3 : k < m
            · exact absurd ⟨k, h3, hk⟩ h2
            · omega⟩⟩
    · exact ⟨0, fun h2 => absurd h2 h⟩
  have pass : ∀ n a w, J n a w → (Code.skip.seq rest).wp P (Exit.jump l (fun a' w' => ∃ m, m < n ∧ J m a' w') Q) a w := fun n a w h => wp_seq (wp_skip (pass0 n a w h))
  refine wp_scope_jumps l (fun a w => ∃ n, J n a w) (fun a w => Classical.choose (hmin a w)) hf (first fun n a w h => wp_mono (pass0 n a w h) fun e a w hq => ?_) fun a w h => ?_
  · cases e with
    | goto l' => exact ⟨hq.1, hq.2.imp fun m hm => hm.2⟩
    | normal => exact hq
    | exit id => exact hq
    | ret => exact hq
    | panic ch => exact hq
    | outgrown => exact hq
  · have hs := Classical.choose_spec (hmin a w) h
    refine wp_mono (pass _ a w hs.1) fun e a' w' hq => ?_
    cases e with
    | goto l' =>
      obtain ⟨h1, m, hm, hj⟩ := hq
      have hs' := Classical.choose_spec (hmin a' w') ⟨m, hj⟩
      exact ⟨h1, ⟨m, hj⟩, Nat.lt_of_le_of_lt (hs'.2 m hj) hm⟩
    | normal => exact hq
    | exit id => exact hq
    | ret => exact hq
    | panic ch => exact hq
    | outgrown => exact hq
theorem jump_ret {l : Nat} {J : Act → World → Prop} {Q : Exit → Act → World → Prop} {a : Act} {w : World} : Exit.jump l J Q .ret a w = Q .ret a w := rfl

/-- What holds at the label, a number bearing the measure. -/
def LI (w : World) (rb : Nat) (bv : Value) (bs : List UInt8) (n : Nat) (rd : Res Rs) (N : Nat) (tv : Value) (wr : World) : Prop := ∃ (T : List (Nat × Bool)) (sv : Value) (s : Pr), DI w rb bv tv sv bs T s wr ∧ s.why = 0 ∧ s.cells ≤ 1024 ∧ s.out.length ≤ 2 * s.pos + s.cells ∧ T.length ≤ s.pos ∧ 2 * (n - s.pos) + T.length ≤ N ∧ (∀ x ∈ T, x.1 ≤ 1025) ∧ Stk bs T ⟨s.pos, s.cells, s.out⟩ rd
def LJ (w : World) (rb : Nat) (bv v : Value) (bs : List UInt8) (n : Nat) (rd : Res Rs) (N : Nat) (a : Act) (wr : World) : Prop := ∃ (tv u1 u2 u3 u4 u7 u8 u9 u10 u11 u12 u13 u14 u15 u16 u17 u18 u19 u20 u21 u22 u23 u24 u25 u26 u27 u28 u29 u30 u31 u32 u33 u34 u35 u36 u37 u38 u39 u40 u41 u42 u43 u44 u45 u46 u47 u48 u49 u50 u51 u52 u53 u54 u55 u56 u57 u58 u59 u60 u61 u62 u63 u64 u65 u66 u67 u68 u69 u70 u71 u72 u73 u74 u75 u76 u77 u78 u79 u80 u81 u82 u83 u84 u85 u86 u87 u88 u89 u90 u91 u92 u93 u94 u95 u96 u97 u98 u99 u100 u101 u102 u103 u104 u105 u106 u107 u108 u109 u110 : Value), a = { tmps := #[v, u1, u2, u3, u4, .pointer (some ⟨rb, 0, none⟩), tv, u7, u8, u9, u10, u11, u12, u13, u14, u15, u16, u17, u18, u19, u20, u21, u22, u23, u24, u25, u26, u27, u28, u29, u30, u31, u32, u33, u34, u35, u36, u37, u38, u39, u40, u41, u42, u43, u44, u45, u46, u47, u48, u49, u50, u51, u52, u53, u54, u55, u56, u57, u58, u59, u60, u61, u62, u63, u64, u65, u66, u67, u68, u69, u70, u71, u72, u73, u74, u75, u76, u77, u78, u79, u80, u81, u82, u83, u84, u85, u86, u87, u88, u89, u90, u91, u92, u93, u94, u95, u96, u97, u98, u99, u100, u101, u102, u103, u104, u105, u106, u107, u108, u109, u110], defers := [] } ∧ LI w rb bv bs n rd N tv wr

def DecP (w : World) (X : Res (List Ce)) (r : Ending) (w' : World) : Prop := ResP X
  (fun cs => ∃ cv', r = .returned (.tuple #[cv', .int .i64 0, .int .i64 0]) ∧ Sl w' 60 3 cv' cs.length (cvs cs) ∧ ∀ k, cv'.ownBlock = some k → w.heap.size ≤ k)
  (fun e p => r = .returned (.tuple #[.slice none 0 0, .int .i64 e, .int .i64 p]))

set_option maxHeartbeats 6400000 in
set_option maxRecDepth 100000 in
theorem Decode_any (bs : List UInt8) (v : Value) (w : World) (hrd : Rd w 1 v bs.length (byteCells bs)) (hT : ∀ W, Below w.heap.size w W → Lib.Utf8Tabs 0 1 W) :
    Calls Tryd.prog 10 #[v] w fun r w' => DecP w (decD bs) r w' ∧ Below w.heap.size w w' := by
  obtain ⟨i0, hinf, hz0, hz1, hz2⟩ := info_parts Tryd.info56
  obtain ⟨ao, cap, rfl, hcap, hmax⟩ := hrd.shape
  unfold maxLen at hmax
  obtain ⟨X, hX⟩ : ∃ X, decD bs = X := ⟨_, rfl⟩
  rw [hX]
  have HX := Lib.hid (show X = decD bs from hX.symm)
  have HT := Lib.hid hT
  have HRD := Lib.hid hrd
  clear hX hT
  obtain ⟨n, hn⟩ : ∃ n, bs.length = n := ⟨_, rfl⟩
  rw [hn] at hrd hcap ⊢
  have HN := Lib.hid hn
  clear hn
  by_cases hbig : 1048576 < n
  · have HF : Hid (X = .bad 4 0) := Lib.hid (by rw [HX.out]; exact if_pos (by rw [HN.out]; exact hbig))
    have t1 : decide (1048576 < (n : Int)) = true := by simp; omega
    have t2 : decide (1048576 < n) = true := by simp; omega
    clear hrd hbig
    go_enter Tryd.func10, Tryd.ntmps10
    go_wp2_with fail
    go_step3
    go_wp2_with fail
    try rw [Exit.noGoto_ret]
    try rw [jump_ret]
    go_ret3
    exact ⟨ResP.badI HF.out rfl, Below.refl _ _⟩
  · have t1 : decide (1048576 < (n : Int)) = false := by simp; omega
    have t2 : decide (1048576 < n) = false := by simp; omega
    by_cases hz : n = 0
    · subst hz
      have HF : Hid (X = .bad 60 0) := Lib.hid (by rw [HX.out]; unfold decD; rw [if_neg (by rw [HN.out]; omega), if_pos (.inl HN.out)])
      clear hrd hbig
      go_enter Tryd.func10, Tryd.ntmps10
      go_wp2_with fail
      go_step3
      go_wp2_with fail
      try rw [Exit.noGoto_ret]
      try rw [jump_ret]
      go_ret3
      exact ⟨ResP.badI HF.out rfl, Below.refl _ _⟩
    · obtain ⟨b, bt, rfl⟩ : ∃ b bt, bs = b :: bt := by
        cases bs with
        | nil => exact absurd HN.out.symm hz
        | cons b bt => exact ⟨b, bt, rfl⟩
      obtain ⟨g, off, cap', hv, _, _, hjunk⟩ := hrd.at (by omega)
      clear hjunk
      simp at hv
      obtain ⟨rfl, rfl⟩ := hv
      have hb0 := cells_byte hrd (k := 0) (c := b) rfl HN.out
      rw [Nat.add_zero] at hb0
      obtain ⟨y, hy⟩ : ∃ y, b.toNat = y := ⟨_, rfl⟩
      rw [hy] at hb0
      have q1 : ((n : Int) == 0) = false := by simp; omega
      have q2 : (n == 0) = false := by simp; omega
      have hn0 : 0 < n := by omega
      clear hrd
      by_cases hb : y = 131
      · subst hb
        obtain ⟨rd, hrd⟩ := Runs.total (b :: bt) 1 false ⟨1, 0, []⟩ (by show 1 ≤ _; rw [HN.out]; omega)
        have HF : Hid (X = finD n rd) := Lib.hid (by
          obtain ⟨r2, h2, _⟩ := kids_total (b :: bt) ((b :: bt).length + 1) 1 false ⟨1, 0, []⟩ (by omega) (by show 1 ≤ _; rw [HN.out]; omega)
          have := Runs.unique hrd ⟨_, h2⟩
          subst this
          rw [HX.out]; unfold decD
          rw [if_neg (by rw [HN.out]; omega), if_neg, h2]
          · rw [HN.out]
            cases rd <;> rfl
          · rw [HN.out]
            rintro (e | e)
            · omega
            · exact e (by simp; exact UInt8.toNat_inj.1 hy))
        have HSTK := Lib.hid (Stk.start hrd)
        clear hrd hbig hz
        obtain ⟨rb, hrb⟩ : ∃ rb, w.heap.size = rb := ⟨_, rfl⟩
        have hstart : DI w w.heap.size (.slice (some ⟨g, off, none⟩) n cap) (.slice (some ⟨w.heap.size + 1, 0, none⟩) 1 1) (.slice none 0 0) (b :: bt) [(1, false)] ⟨1, 0, 0, [], 0, 0⟩
            ((w.alloc (.cells #[.slice (some ⟨g, off, none⟩) n cap, .int .i64 1, .int .i64 0, .int .i64 0, .slice none 0 0, .int .i64 0, .int .i64 0] 54)).alloc (.cells #[.int .i64 1, .bool false] 56)) := by
          have hbel := (bel_box w (.cells #[.slice (some ⟨g, off, none⟩) n cap, .int .i64 1, .int .i64 0, .int .i64 0, .slice none 0 0, .int .i64 0, .int .i64 0] 54)).alloc (by simp) (.cells #[.int .i64 1, .bool false] 56)
          refine ⟨⟨blk_alloc (heap_alloc_new w _), Sl.nil _ _ _, ?_, Nat.le_refl _, (fun k hk => by cases hk), by rw [HN.out]; exact hn0⟩, hbel, ?_, fun k hk => ?_⟩
          · rw [HN.out]
            exact (RdU.of (HN.out ▸ HRD.out) (Nat.le_refl _)).step hbel
          · have h1 := heap_alloc_new (w.alloc (.cells #[.slice (some ⟨g, off, none⟩) n cap, .int .i64 1, .int .i64 0, .int .i64 0, .slice none 0 0, .int .i64 0, .int .i64 0] 54)) (.cells #[.int .i64 1, .bool false] 56)
            rw [show (w.alloc (.cells #[.slice (some ⟨g, off, none⟩) n cap, .int .i64 1, .int .i64 0, .int .i64 0, .slice none 0 0, .int .i64 0, .int .i64 0] 54)).heap.size = w.heap.size + 1 by simp] at h1
            exact ⟨some ⟨w.heap.size + 1, 0, none⟩, 1, rfl, rfl, Nat.le_refl _, by unfold maxLen; omega, .inr ⟨w.heap.size + 1, 0, _, rfl, h1, by decide, rfl⟩⟩
          · cases hk
            exact ⟨by show _ ≤ w.heap.size + 1; omega, by show w.heap.size + 1 ≠ _; omega, fun e => by cases e⟩
        have HST := Lib.hid hstart
        clear hstart
        have hn20 : n ≤ 1048576 := by simp at t2; omega
        obtain ⟨bs, hbs⟩ : ∃ bs, b :: bt = bs := ⟨_, rfl⟩
        rw [hbs] at HX HN HRD HST HSTK
        clear hbs hy
        obtain ⟨bv, hbv⟩ : ∃ bv, Value.slice (some ⟨g, off, none⟩) n cap = bv := ⟨_, rfl⟩
        have HBV := Lib.hid hbv
        rw [hrb] at HST
        clear hbv
        go_enter Tryd.func10, Tryd.ntmps10
        go_wp2_with fail
        refine wp_scope_ghost 0 (LJ w rb bv (.slice (some ⟨g, off, none⟩) n cap) bs n rd) rfl ?pass0 (fun hrest => ?first)
        case first =>
          go_wp2_with fail
          go_step3
          rename_i hK
          refine hK _ _ ?_
          refine hrest (2 * n + 1) _ _ ?_
          unfold LJ
          refine ⟨_, _, _, _, _, _, _, _, _, _, _, _, _, _, _, _, _, _, _, _, _, _, _, _, _, _, _, _, _, _, _, _, _, _, _, _, _, _, _, _, _, _, _, _, _, _, _, _, _, _, _, _, _, _, _, _, _, _, _, _, _, _, _, _, _, _, _, _, _, _, _, _, _, _, _, _, _, _, _, _, _, _, _, _, _, _, _, _, _, _, _, _, _, _, _, _, _, _, _, _, _, _, _, _, _, _, _, _, _, rfl, ?_⟩
          rw [← HBV.out]
          exact ⟨_, _, _, HST.out, rfl, by simp, by simp, by simp, by simp; omega, by simp, HSTK.out⟩
        clear HST HSTK hb0
        rintro N a wr ⟨tv, u1, u2, u3, u4, u7, u8, u9, u10, u11, u12, u13, u14, u15, u16, u17, u18, u19, u20, u21, u22, u23, u24, u25, u26, u27, u28, u29, u30, u31, u32, u33, u34, u35, u36, u37, u38, u39, u40, u41, u42, u43, u44, u45, u46, u47, u48, u49, u50, u51, u52, u53, u54, u55, u56, u57, u58, u59, u60, u61, u62, u63, u64, u65, u66, u67, u68, u69, u70, u71, u72, u73, u74, u75, u76, u77, u78, u79, u80, u81, u82, u83, u84, u85, u86, u87, u88, u89, u90, u91, u92, u93, u94, u95, u96, u97, u98, u99, u100, u101, u102, u103, u104, u105, u106, u107, u108, u109, u110, rfl, HLI⟩
        replace HLI := Lib.hid HLI
        go_wp2_with fail
        go_loopg [6] N (fun gg s6 wr => gg ≤ N ∧ ∃ (T : List (Nat × Bool)) (sv tv : Value) (s : Pr), s6 = tv ∧ DI w rb bv tv sv bs T s wr ∧ s.why = 0 ∧ s.cells ≤ 1024 ∧ s.out.length ≤ 2 * s.pos + s.cells ∧ T.length ≤ s.pos ∧ 2 * (n - s.pos) + T.length ≤ gg ∧ (∀ x ∈ T, x.1 ≤ 1025) ∧ Hid (Stk bs T ⟨s.pos, s.cells, s.out⟩ rd))
        case atStart =>
          obtain ⟨T, sv, s, h1, h2, h3, h4, h5, h6, h7, h8⟩ := HLI.out
          exact ⟨Nat.le_refl _, T, sv, tv, s, rfl, h1, h2, h3, h4, h5, h6, h7, Lib.hid h8⟩
        case round =>
          clear HLI
          obtain ⟨hgN, T, sv, tv, s, rfl, hI, hs, hc, hol, hTl, hgg, hTk, HK⟩ := hrel
          have hpl : s.pos ≤ n := by rw [← HN.out]; exact hI.rp.le
          have HI := Lib.hid hI
          have HS := Lib.hid hs
          cases T with
          | nil =>
            have hst := hI.st
            simp only [List.length_nil] at hst
            obtain ⟨ao2, cap2, rfl, _, _⟩ := hst.shape
            have hR : rd = .ok ⟨s.pos, s.cells, s.out⟩ := HK.out
            have c1 := hI.rp.fld.1
            have c4 := (Pr.cell hI.rp.blk).2.2.2.2.1
            obtain ⟨n0, hn0'⟩ : ∃ n0, s.out.length = n0 := ⟨_, rfl⟩
            have hsl := hI.rp.sl
            rw [hn0'] at hsl
            obtain ⟨ao3, cap3, rfl, _, _⟩ := hsl.shape
            have HN0 := Lib.hid hn0'
            clear hst hI hs hsl hn0'
            obtain ⟨ps, hps⟩ : ∃ ps, s.pos = ps := ⟨_, rfl⟩
            rw [hps] at c1 hpl
            have HPS := Lib.hid hps
            by_cases hp : ps < n
            · have HF2 : Hid (X = .bad 63 ps) := Lib.hid (by rw [HF.out, hR]; show (if s.pos < n then _ else _) = _; rw [if_pos (by rw [hps]; exact hp), hps])
              have t3 : decide ((ps : Int) < (n : Int)) = true := by simp; omega
              clear hR hps
              go_wp2_with fail
              go_quiet (fail)
              go_wp2_with fail
              try rw [Exit.noGoto_ret]
              try rw [jump_ret]
              go_ret3
              exact ⟨ResP.badI HF2.out rfl, bel_drewN HI.out.bel _⟩
            · have HF2 : Hid (X = .ok s.out) := Lib.hid (by rw [HF.out, hR]; show (if s.pos < n then _ else _) = _; rw [if_neg (by rw [hps]; exact hp)])
              have t3 : decide ((ps : Int) < (n : Int)) = false := by simp; omega
              clear hR hps
              go_wp2_with fail
              try rw [Exit.noGoto_ret]
              try rw [jump_ret]
              go_ret3
              exact ⟨ResP.okI HF2.out ⟨_, rfl, HN0.out ▸ HI.out.rp.sl, HI.out.rp.own⟩, HI.out.bel⟩
          | cons kc t =>
            obtain ⟨k, c⟩ := kc
            obtain ⟨m, hm⟩ : ∃ m, t.length = m := ⟨_, rfl⟩
            obtain ⟨m1, hm1⟩ : ∃ m1, m + 1 = m1 := ⟨_, rfl⟩
            rw [List.length_cons, hm, hm1] at hTl hgg
            have hst := hI.st
            rw [List.length_cons, hm, hm1] at hst
            obtain ⟨tg, toff, tcap, hv, hc1, hc2, hjunk⟩ := hst.rd.at (by omega)
            clear hjunk
            subst hv
            have d0 := hst.cell (m * 2) (by omega)
            have d1 := hst.cell (m * 2 + 1) (by omega)
            rw [← hm, (kx_top k c t).1, hm] at d0
            rw [← hm, (kx_top k c t).2, hm, ← Nat.add_assoc] at d1
            have f0 := hst.free (toff + m * 2)
            have w1 : IntKind.i64.wrap ((m1 : Int) - 1) = (m : Int) := by rw [IntKind.wrap_i64]; omega
            have w2 : (m1 : Int) - 1 = (m : Int) := by omega
            have w3 : IntKind.i64.wrap (m : Int) = (m : Int) := wraps_i64 _ (by omega) (by omega)
            have p0 : (0 : Int) < (m1 : Int) := by omega
            have p1 : 0 < m1 := by omega
            have p2 : (m : Int) < (m1 : Int) := by omega
            have p3 : m < m1 := by omega
            have HMM := Lib.hid (⟨hm, hm1⟩ : t.length = m ∧ m + 1 = m1)
            have HGG := Lib.hid hgg
            have HGN := Lib.hid hgN
            have HTL := Lib.hid (⟨hc, hol, hTl⟩ : s.cells ≤ 1024 ∧ s.out.length ≤ 2 * s.pos + s.cells ∧ m1 ≤ s.pos)
            cases k with
            | zero =>
              have hDT := hI.todo (T' := t) (tv' := .slice (some ⟨tg, toff, none⟩) m tcap) (Fr.refl _ wr) (by
                have := hst.take (m := m) (by omega)
                rw [← hm, kx_take] at this
                rw [← hm]; exact this) (fun q hq => .inl hq)
              have HDT := Lib.hid hDT
              have HKT := Lib.hid HK.out.zero
              clear hI hst hDT hs hc hol hTl hgg hm hm1 HK
              have HTK := Lib.hid (fun x hx => hTk x (List.mem_cons_of_mem _ hx) : ∀ x ∈ t, x.1 ≤ 1025)
              clear hTk
              go_wp2_with fail
              go_roundg (gk - 1)
              case measure => have := HGG.out; omega
              case rel => exact ⟨by have := HGN.out; omega, t, sv, _, s, rfl, HDT.out, HS.out, HTL.out.1, HTL.out.2.1, by have := HMM.out; have := HTL.out; omega, by have := HMM.out; have := HGG.out; omega, HTK.out, HKT⟩
            | succ k =>
              have hkb : k + 1 ≤ 1025 := hTk (k + 1, c) (List.mem_cons_self ..)
              have HTK := Lib.hid (fun x hx => hTk x (List.mem_cons_of_mem _ hx) : ∀ x ∈ t, x.1 ≤ 1025)
              obtain ⟨K1, hK1⟩ : ∃ K1, k + 1 = K1 := ⟨_, rfl⟩
              rw [hK1] at d0
              have e1 : ((K1 : Int) == 0) = false := by simp; omega
              have e1' : (K1 == 0) = false := by simp; omega
              have e2 : IntKind.i64.wrap ((K1 : Int) - 1) = (k : Int) := by rw [IntKind.wrap_i64]; omega
              have e3 : (K1 : Int) - 1 = (k : Int) := by omega
              have e4 : IntKind.i64.wrap (k : Int) = (k : Int) := wraps_i64 _ (by omega) (by omega)
              have hD1 : DI w rb bv (.slice (some ⟨tg, toff, none⟩) m1 tcap) sv bs ((k, c) :: t) s (wr.setCell ⟨tg, toff + m * 2, none⟩ (.int .i64 (k : Int))) := by
                refine hI.todo (T' := (k, c) :: t) ((Fr.refl (fun q => (Value.slice (some ⟨tg, toff, none⟩) m1 tcap).ownBlock = some q) wr).setCell (p := ⟨tg, toff + m * 2, none⟩) (.inl rfl) _) ?_ (fun q hq => .inl hq)
                have := hst.store (m * 2) (by omega) (.int .i64 (k : Int))
                rw [← hm, kx_set, hm] at this
                rw [List.length_cons, hm, hm1]; exact this
              have hst1 := hD1.st
              rw [List.length_cons, hm, hm1] at hst1
              have g0 := hst1.cell (m * 2) (by omega)
              have g1 := hst1.cell (m * 2 + 1) (by omega)
              rw [← hm, (kx_top k c t).1, hm] at g0
              rw [← hm, (kx_top k c t).2, hm, ← Nat.add_assoc] at g1
              have HD1 := Lib.hid hD1
              have HK1 := Lib.hid hK1
              clear hI hst hst1 hD1 hs hc hol hTl hgg hm hm1 hTk hK1
              cases c with
              | false =>
                have HO := one_any w.heap.size rb bv sv bs s (by rw [HN.out]; exact hn20) (by rw [HN.out]; exact hn0) (wr.setCell ⟨tg, toff + m * 2, none⟩ (.int .i64 (k : Int))) HD1.out.rp HS.out HTL.out.1 (by have := HTL.out; omega) (fun W' hW => HT.out W' (HD1.out.bel.trans hW))
                have HHO := Lib.hid HO
                clear HO
                go_wp2_with fail
                refine (HHO.out).mono ?_
                intro r w6 h6
                cases ho : oneD bs ⟨s.pos, s.cells, s.out⟩ with
                | bad e p =>
                  obtain ⟨⟨n1, b1, rfl⟩, hE⟩ := ResP.badE h6 ho
                  obtain ⟨sv7, s7, h7, hw7, hp7, he7⟩ := hE
                  have HF2 : Hid (X = .bad e p) := Lib.hid (by rw [HF.out, HK.out.bad (show oneD bs (push _ _ _) = _ from id ho)]; rfl)
                  have HD7 := Lib.hid (HD1.out.read h7)
                  have hlt7 := h7.rp.lt
                  obtain ⟨_, _, _, _, _, c5, c6⟩ := Pr.cell h7.rp.blk
                  rw [hw7] at c5
                  rw [hp7] at c6
                  have q3 : ((e : Int) != 0) = true := by simp; omega
                  have q4 : (e != 0) = true := by simp; omega
                  clear ho h6 h7 hw7 hp7 he7
                  go_wp2_with fail
                  go_quiet (fail)
                  go_wp2_with fail
                  try rw [Exit.noGoto_ret]
                  try rw [jump_ret]
                  go_ret3
                  exact ⟨ResP.badI HF2.out rfl, bel_drewN (HD7.out.bel.alloc HD7.out.bel.size _) _⟩
                | ok x =>
                  obtain ⟨s1, k1, c1⟩ := x
                  obtain ⟨rfl, hG⟩ := ResP.okE h6 ho
                  obtain ⟨sv7, tg7, pl7, h7⟩ := hG
                  have hb := oneD_ok ho
                  have HB := Lib.hid hb
                  have hk1 : k1 ≤ 1025 := hb.2.2.2.2.2
                  have hD7 := HD1.out.read h7
                  have HK7 : Hid (Stk bs ((k1, c1) :: _ :: t) ⟨s1.pos, s1.cells, s1.out⟩ rd) := Lib.hid (HK.out.step (show oneD bs (push _ _ _) = _ from id ho))
                  have hlt7 := h7.rp.lt
                  have c5 := h7.rp.fld.2.2.2
                  simp only at c5
                  have hD8 := hD7.todo (T' := (k, false) :: t) ((Fr.refl _ w6).alloc (.cells #[.int .i64 k1, .bool c1] 56)) (hD7.st.alloc _) (fun q hq => .inl hq)
                  have HD8 := Lib.hid hD8
                  have HSL := Lib.hid hD8.st
                  have HK1025 : Hid (∀ x ∈ (k, false) :: t, x.1 ≤ 1025) := Lib.hid (fun x hx => by
                    rcases List.mem_cons.1 hx with rfl | hx
                    · show k ≤ 1025; omega
                    · exact HTK.out x hx)
                  clear ho h6 h7 hb hD7 hD8
                  have hcn := cells_new (w6.alloc (.cells #[.int .i64 k1, .bool c1] 56)) [.int .i64 k1, .bool c1] 56
                  rw [show (w6.alloc (.cells #[.int .i64 k1, .bool c1] 56)).heap.size = w6.heap.size + 1 by simp] at hcn
                  have HCN := Lib.hid hcn
                  clear hcn
                  have hposl : s1.pos ≤ 1048576 := by have := HB.out; have := HN.out; omega
                  cases k1 with
                  | zero =>
                    go_wp2_with fail
                    go_step3
                    refine And.intro rfl ⟨gk - 1, by have := HGG.out; have := HGN.out; omega, _, _, _, _, _, _, _, _, _, _, _, _, _, _, _, _, _, _, _, _, _, _, _, _, _, _, _, _, _, _, _, _, _, _, _, _, _, _, _, _, _, _, _, _, _, _, _, _, _, _, _, _, _, _, _, _, _, _, _, _, _, _, _, _, _, _, _, _, _, _, _, _, _, _, _, _, _, _, _, _, _, _, _, _, _, _, _, _, _, _, _, _, _, _, _, _, _, _, _, _, _, _, _, _, _, _, _, _, _, rfl, ?_⟩
                    exact ⟨_, sv7, _, HD8.out, rfl, HB.out.2.2.1, by have h1 := HB.out; have h2 := HTL.out; simp only at h1 ⊢; omega, by have h1 := HB.out; have h2 := HTL.out; have h3 := HMM.out; simp only [List.length_cons] at h1 ⊢; omega, by have h1 := HB.out; have h2 := HTL.out; have h3 := HMM.out; have h4 := HGG.out; have h5 := HN.out; simp only [List.length_cons] at h1 ⊢; omega, HK1025.out, HK7.out.zero⟩
                  | succ k2 =>
                    obtain ⟨k3, hk3⟩ : ∃ k3, k2 + 1 = k3 := ⟨_, rfl⟩
                    rw [hk3] at HD8 HSL HK7 HCN hk1 ⊢
                    have y1 : decide ((0 : Int) < (k3 : Int)) = true := by simp; omega
                    have y2 : (0 : Int) < (k3 : Int) := by omega
                    have hm1b : m1 ≤ 1048576 := by have h1 := HB.out; have h2 := HTL.out; have h3 := HN.out; simp only at h1; omega
                    clear hk3
                    go_wp2_with (at_builtin; refine wpList_append_sl rfl (.tmp 92) (.tmp 94) 57 rfl 56 i0 (.agg #[.int .i64 0, .bool false]) 2 16 Tryd.underlying57 hinf hz0 hz1 hz2 rfl (by decide) (.slice (some ⟨tg, toff, none⟩) m1 tcap) m1 (kx ((k, false) :: t)) rfl ?sl _ 1 1 [.int .i64 k3, .bool c1] rfl rfl HCN.out ?one (by unfold maxLen; omega) (by omega) ?next)
                    case sl =>
                      have := HSL.out.alloc (.cells #[.int .i64 k3, .bool c1] 56)
                      rw [List.length_cons, HMM.out.1, HMM.out.2] at this
                      exact this
                    case one => intro u hu; simp at hu; rcases hu with rfl | rfl <;> rfl
                    case next =>
                      intro v' w9 hs9 hf9 hv9
                      have hD9 := HD8.out.todo (T' := (k3, c1) :: (k, false) :: t) (((Fr.refl _ _).alloc _).trans hf9) (by
                        have := HMM.out
                        rw [show ((k3, c1) :: (k, false) :: t).length = m1 + 1 by simp; omega]
                        exact hs9) (fun q hq => by
                        rcases hv9 with e | e
                        · exact .inl (e ▸ hq)
                        · rw [e] at hq; cases hq; exact .inr (by simp))
                      have HD9 := Lib.hid hD9
                      clear hs9 hf9 hv9 hD9
                      go_wp2_with fail
                      go_step3
                      refine And.intro rfl ⟨gk - 1, by have := HGG.out; have := HGN.out; omega, _, _, _, _, _, _, _, _, _, _, _, _, _, _, _, _, _, _, _, _, _, _, _, _, _, _, _, _, _, _, _, _, _, _, _, _, _, _, _, _, _, _, _, _, _, _, _, _, _, _, _, _, _, _, _, _, _, _, _, _, _, _, _, _, _, _, _, _, _, _, _, _, _, _, _, _, _, _, _, _, _, _, _, _, _, _, _, _, _, _, _, _, _, _, _, _, _, _, _, _, _, _, _, _, _, _, _, _, _, rfl, ?_⟩
                      exact ⟨_, sv7, _, HD9.out, rfl, HB.out.2.2.1, by have h1 := HB.out; have h2 := HTL.out; simp only at h1 ⊢; omega, by have h1 := HB.out; have h2 := HTL.out; have h3 := HMM.out; simp only [List.length_cons] at h1 ⊢; omega, by have h1 := HB.out; have h2 := HTL.out; have h3 := HMM.out; have h4 := HGG.out; have h5 := HN.out; simp only [List.length_cons] at h1 ⊢; omega, (fun x hx => by
                        rcases List.mem_cons.1 hx with rfl | hx
                        · exact hk1
                        · exact HK1025.out x hx), HK7.out⟩
              | true =>
                by_cases hk0 : k = 0
                · subst hk0
                  have HO := one_any w.heap.size rb bv sv bs s (by rw [HN.out]; exact hn20) (by rw [HN.out]; exact hn0) (wr.setCell ⟨tg, toff + m * 2, none⟩ (.int .i64 ((0 : Nat) : Int))) HD1.out.rp HS.out HTL.out.1 (by have := HTL.out; omega) (fun W' hW => HT.out W' (HD1.out.bel.trans hW))
                  have HHO := Lib.hid HO
                  clear HO
                  go_wp2_with fail
                  refine (HHO.out).mono ?_
                  intro r w6 h6
                  cases ho : oneD bs ⟨s.pos, s.cells, s.out⟩ with
                  | bad e p =>
                    obtain ⟨⟨n1, b1, rfl⟩, hE⟩ := ResP.badE h6 ho
                    obtain ⟨sv7, s7, h7, hw7, hp7, he7⟩ := hE
                    have HF2 : Hid (X = .bad e p) := Lib.hid (by rw [HF.out, HK.out.bad (show oneD bs (push _ _ _) = _ from id ho)]; rfl)
                    have HD7 := Lib.hid (HD1.out.read h7)
                    have hlt7 := h7.rp.lt
                    obtain ⟨_, _, _, _, _, c5, c6⟩ := Pr.cell h7.rp.blk
                    rw [hw7] at c5
                    rw [hp7] at c6
                    have q3 : ((e : Int) != 0) = true := by simp; omega
                    have q4 : (e != 0) = true := by simp; omega
                    clear ho h6 h7 hw7 hp7 he7
                    go_wp2_with fail
                    go_quiet (fail)
                    go_wp2_with fail
                    try rw [Exit.noGoto_ret]
                    try rw [jump_ret]
                    go_ret3
                    exact ⟨ResP.badI HF2.out rfl, bel_drewN (HD7.out.bel.alloc HD7.out.bel.size _) _⟩
                  | ok x =>
                    obtain ⟨s1, k1, c1⟩ := x
                    obtain ⟨rfl, hG⟩ := ResP.okE h6 ho
                    obtain ⟨sv7, tg7, pl7, h7⟩ := hG
                    have hb := oneD_ok ho
                    have HB := Lib.hid hb
                    have hk1 : k1 ≤ 1025 := hb.2.2.2.2.2
                    have hD7 := HD1.out.read h7
                    have HK7 : Hid (Stk bs ((k1, c1) :: _ :: t) ⟨s1.pos, s1.cells, s1.out⟩ rd) := Lib.hid (HK.out.step (show oneD bs (push _ _ _) = _ from id ho))
                    have hlt7 := h7.rp.lt
                    have c5 := h7.rp.fld.2.2.2
                    simp only at c5
                    have hD8 := hD7.todo (T' := (0, true) :: t) ((Fr.refl _ w6).alloc (.cells #[.int .i64 k1, .bool c1] 56)) (hD7.st.alloc _) (fun q hq => .inl hq)
                    have HD8 := Lib.hid hD8
                    have HSL := Lib.hid hD8.st
                    have HK1025 : Hid (∀ x ∈ (0, true) :: t, x.1 ≤ 1025) := Lib.hid (fun x hx => by
                      rcases List.mem_cons.1 hx with rfl | hx
                      · show 0 ≤ 1025; omega
                      · exact HTK.out x hx)
                    clear ho h6 h7 hb hD7 hD8
                    have hcn := cells_new (w6.alloc (.cells #[.int .i64 k1, .bool c1] 56)) [.int .i64 k1, .bool c1] 56
                    rw [show (w6.alloc (.cells #[.int .i64 k1, .bool c1] 56)).heap.size = w6.heap.size + 1 by simp] at hcn
                    have HCN := Lib.hid hcn
                    clear hcn
                    have hposl : s1.pos ≤ 1048576 := by have := HB.out; have := HN.out; omega
                    cases k1 with
                    | zero =>
                      go_wp2_with fail
                      go_step3
                      refine And.intro rfl ⟨gk - 1, by have := HGG.out; have := HGN.out; omega, _, _, _, _, _, _, _, _, _, _, _, _, _, _, _, _, _, _, _, _, _, _, _, _, _, _, _, _, _, _, _, _, _, _, _, _, _, _, _, _, _, _, _, _, _, _, _, _, _, _, _, _, _, _, _, _, _, _, _, _, _, _, _, _, _, _, _, _, _, _, _, _, _, _, _, _, _, _, _, _, _, _, _, _, _, _, _, _, _, _, _, _, _, _, _, _, _, _, _, _, _, _, _, _, _, _, _, _, _, rfl, ?_⟩
                      exact ⟨_, sv7, _, HD8.out, rfl, HB.out.2.2.1, by have h1 := HB.out; have h2 := HTL.out; simp only at h1 ⊢; omega, by have h1 := HB.out; have h2 := HTL.out; have h3 := HMM.out; simp only [List.length_cons] at h1 ⊢; omega, by have h1 := HB.out; have h2 := HTL.out; have h3 := HMM.out; have h4 := HGG.out; have h5 := HN.out; simp only [List.length_cons] at h1 ⊢; omega, HK1025.out, HK7.out.zero⟩
                    | succ k2 =>
                      obtain ⟨k3, hk3⟩ : ∃ k3, k2 + 1 = k3 := ⟨_, rfl⟩
                      rw [hk3] at HD8 HSL HK7 HCN hk1 ⊢
                      have y1 : decide ((0 : Int) < (k3 : Int)) = true := by simp; omega
                      have y2 : (0 : Int) < (k3 : Int) := by omega
                      have hm1b : m1 ≤ 1048576 := by have h1 := HB.out; have h2 := HTL.out; have h3 := HN.out; simp only at h1; omega
                      clear hk3
                      go_wp2_with (at_builtin; refine wpList_append_sl rfl (.tmp 92) (.tmp 94) 57 rfl 56 i0 (.agg #[.int .i64 0, .bool false]) 2 16 Tryd.underlying57 hinf hz0 hz1 hz2 rfl (by decide) (.slice (some ⟨tg, toff, none⟩) m1 tcap) m1 (kx ((0, true) :: t)) rfl ?sl _ 1 1 [.int .i64 k3, .bool c1] rfl rfl HCN.out ?one (by unfold maxLen; omega) (by omega) ?next)
                      case sl =>
                        have := HSL.out.alloc (.cells #[.int .i64 k3, .bool c1] 56)
                        rw [List.length_cons, HMM.out.1, HMM.out.2] at this
                        exact this
                      case one => intro u hu; simp at hu; rcases hu with rfl | rfl <;> rfl
                      case next =>
                        intro v' w9 hs9 hf9 hv9
                        have hD9 := HD8.out.todo (T' := (k3, c1) :: (0, true) :: t) (((Fr.refl _ _).alloc _).trans hf9) (by
                          have := HMM.out
                          rw [show ((k3, c1) :: (0, true) :: t).length = m1 + 1 by simp; omega]
                          exact hs9) (fun q hq => by
                          rcases hv9 with e | e
                          · exact .inl (e ▸ hq)
                          · rw [e] at hq; cases hq; exact .inr (by simp))
                        have HD9 := Lib.hid hD9
                        clear hs9 hf9 hv9 hD9
                        go_wp2_with fail
                        go_step3
                        refine And.intro rfl ⟨gk - 1, by have := HGG.out; have := HGN.out; omega, _, _, _, _, _, _, _, _, _, _, _, _, _, _, _, _, _, _, _, _, _, _, _, _, _, _, _, _, _, _, _, _, _, _, _, _, _, _, _, _, _, _, _, _, _, _, _, _, _, _, _, _, _, _, _, _, _, _, _, _, _, _, _, _, _, _, _, _, _, _, _, _, _, _, _, _, _, _, _, _, _, _, _, _, _, _, _, _, _, _, _, _, _, _, _, _, _, _, _, _, _, _, _, _, _, _, _, _, _, rfl, ?_⟩
                        exact ⟨_, sv7, _, HD9.out, rfl, HB.out.2.2.1, by have h1 := HB.out; have h2 := HTL.out; simp only at h1 ⊢; omega, by have h1 := HB.out; have h2 := HTL.out; have h3 := HMM.out; simp only [List.length_cons] at h1 ⊢; omega, by have h1 := HB.out; have h2 := HTL.out; have h3 := HMM.out; have h4 := HGG.out; have h5 := HN.out; simp only [List.length_cons] at h1 ⊢; omega, (fun x hx => by
                          rcases List.mem_cons.1 hx with rfl | hx
                          · exact hk1
                          · exact HK1025.out x hx), HK7.out⟩

                · have z1 : decide ((0 : Int) < (k : Int)) = true := by simp; omega
                  have z2 : (0 : Int) < (k : Int) := by omega
                  have HPU : Hid (push true k ⟨s.pos, s.cells, s.out⟩ = ⟨s.pos, s.cells, s.out ++ [consC]⟩) := Lib.hid (by
                    unfold push
                    rw [if_pos (by simp; omega)])
                  have HOL : Hid ((s.out ++ [consC]).length ≤ 10000000) := Lib.hid (by
                    have := HTL.out; have := HN.out
                    rw [List.length_append]; simp; omega)
                  obtain ⟨n0, hn0'⟩ : ∃ n0, s.out.length = n0 := ⟨_, rfl⟩
                  have hsl := HD1.out.rp.sl
                  rw [hn0'] at hsl
                  obtain ⟨ao3, cap3, rfl, _, _⟩ := hsl.shape
                  have c4 := (Pr.cell HD1.out.rp.blk).2.2.2.2.1
                  have hrbs : rb < (wr.setCell ⟨tg, toff + m * 2, none⟩ (.int .i64 (k : Int))).heap.size := HD1.out.rp.lt
                  clear hsl hk0 hn0'
                  go_wp2_with (at_builtin; refine wpList_cells (.tmp 68) (.tmp 70) [consC] _ 1 wr.heap.size (by simp) rfl rfl rfl rfl HD1.out.rp rfl rfl (by have := HTL.out; omega) ?nextp)
                  case nextp =>
                    intro ao4 cp4 w5 d4 f4 hq
                    have hq' : Rw w.heap.size (wr.setCell ⟨tg, toff + m * 2, none⟩ (.int .i64 (k : Int))) rb bv (.slice ao3 n0 cap3) bs (w5.setCell ⟨rb, 4, none⟩ (.slice ao4 (s.out.length + 1) cp4)) (.slice ao4 (s.out.length + 1) cp4) { s with out := s.out ++ [consC] } := by rw [hrb]; exact hq
                    have HDP := Lib.hid (HD1.out.read hq')
                    clear hq hq' c4 hrbs
                    have HO := one_any w.heap.size rb bv (.slice ao4 (s.out.length + 1) cp4) bs ({ s with out := s.out ++ [consC] } : Pr) (by rw [HN.out]; exact hn20) (by rw [HN.out]; exact hn0) (w5.setCell ⟨rb, 4, none⟩ (.slice ao4 (s.out.length + 1) cp4)) HDP.out.rp HS.out HTL.out.1 HOL.out (fun W' hW => HT.out W' (HDP.out.bel.trans hW))
                    have HHO := Lib.hid HO
                    clear HO
                    go_wp2_with fail
                    refine (HHO.out).mono ?_
                    intro r w6 h6
                    cases ho : oneD bs ⟨({ s with out := s.out ++ [consC] } : Pr).pos, ({ s with out := s.out ++ [consC] } : Pr).cells, ({ s with out := s.out ++ [consC] } : Pr).out⟩ with
                    | bad e p =>
                      obtain ⟨⟨n1, b1, rfl⟩, hE⟩ := ResP.badE h6 ho
                      obtain ⟨sv7, s7, h7, hw7, hp7, he7⟩ := hE
                      have HF2 : Hid (X = .bad e p) := Lib.hid (by rw [HF.out, HK.out.bad (show oneD bs (push _ _ _) = _ from (fun h => by rw [HPU.out]; exact h) ho)]; rfl)
                      have HD7 := Lib.hid (HDP.out.read h7)
                      have hlt7 := h7.rp.lt
                      obtain ⟨_, _, _, _, _, c5, c6⟩ := Pr.cell h7.rp.blk
                      rw [hw7] at c5
                      rw [hp7] at c6
                      have q3 : ((e : Int) != 0) = true := by simp; omega
                      have q4 : (e != 0) = true := by simp; omega
                      clear ho h6 h7 hw7 hp7 he7
                      go_wp2_with fail
                      go_quiet (fail)
                      go_wp2_with fail
                      try rw [Exit.noGoto_ret]
                      try rw [jump_ret]
                      go_ret3
                      exact ⟨ResP.badI HF2.out rfl, bel_drewN (HD7.out.bel.alloc HD7.out.bel.size _) _⟩
                    | ok x =>
                      obtain ⟨s1, k1, c1⟩ := x
                      obtain ⟨rfl, hG⟩ := ResP.okE h6 ho
                      obtain ⟨sv7, tg7, pl7, h7⟩ := hG
                      have hb := oneD_ok ho
                      have HB := Lib.hid hb
                      have hk1 : k1 ≤ 1025 := hb.2.2.2.2.2
                      have hD7 := HDP.out.read h7
                      have HK7 : Hid (Stk bs ((k1, c1) :: _ :: t) ⟨s1.pos, s1.cells, s1.out⟩ rd) := Lib.hid (HK.out.step (show oneD bs (push _ _ _) = _ from (fun h => by rw [HPU.out]; exact h) ho))
                      have hlt7 := h7.rp.lt
                      have c5 := h7.rp.fld.2.2.2
                      simp only at c5
                      have hD8 := hD7.todo (T' := (k, true) :: t) ((Fr.refl _ w6).alloc (.cells #[.int .i64 k1, .bool c1] 56)) (hD7.st.alloc _) (fun q hq => .inl hq)
                      have HD8 := Lib.hid hD8
                      have HSL := Lib.hid hD8.st
                      have HK1025 : Hid (∀ x ∈ (k, true) :: t, x.1 ≤ 1025) := Lib.hid (fun x hx => by
                        rcases List.mem_cons.1 hx with rfl | hx
                        · show k ≤ 1025; omega
                        · exact HTK.out x hx)
                      clear ho h6 h7 hb hD7 hD8
                      have hcn := cells_new (w6.alloc (.cells #[.int .i64 k1, .bool c1] 56)) [.int .i64 k1, .bool c1] 56
                      rw [show (w6.alloc (.cells #[.int .i64 k1, .bool c1] 56)).heap.size = w6.heap.size + 1 by simp] at hcn
                      have HCN := Lib.hid hcn
                      clear hcn
                      have hposl : s1.pos ≤ 1048576 := by have := HB.out; have := HN.out; omega
                      cases k1 with
                      | zero =>
                        go_wp2_with fail
                        go_step3
                        refine And.intro rfl ⟨gk - 1, by have := HGG.out; have := HGN.out; omega, _, _, _, _, _, _, _, _, _, _, _, _, _, _, _, _, _, _, _, _, _, _, _, _, _, _, _, _, _, _, _, _, _, _, _, _, _, _, _, _, _, _, _, _, _, _, _, _, _, _, _, _, _, _, _, _, _, _, _, _, _, _, _, _, _, _, _, _, _, _, _, _, _, _, _, _, _, _, _, _, _, _, _, _, _, _, _, _, _, _, _, _, _, _, _, _, _, _, _, _, _, _, _, _, _, _, _, _, _, rfl, ?_⟩
                        exact ⟨_, sv7, _, HD8.out, rfl, HB.out.2.2.1, by have h1 := HB.out; have h2 := HTL.out; simp only at h1 ⊢; (simp only [List.length_append, List.length_cons, List.length_nil] at h1 ⊢; omega), by have h1 := HB.out; have h2 := HTL.out; have h3 := HMM.out; simp only [List.length_cons] at h1 ⊢; omega, by have h1 := HB.out; have h2 := HTL.out; have h3 := HMM.out; have h4 := HGG.out; have h5 := HN.out; simp only [List.length_cons] at h1 ⊢; omega, HK1025.out, HK7.out.zero⟩
                      | succ k2 =>
                        obtain ⟨k3, hk3⟩ : ∃ k3, k2 + 1 = k3 := ⟨_, rfl⟩
                        rw [hk3] at HD8 HSL HK7 HCN hk1 ⊢
                        have y1 : decide ((0 : Int) < (k3 : Int)) = true := by simp; omega
                        have y2 : (0 : Int) < (k3 : Int) := by omega
                        have hm1b : m1 ≤ 1048576 := by have h1 := HB.out; have h2 := HTL.out; have h3 := HN.out; simp only at h1; omega
                        clear hk3
                        go_wp2_with (at_builtin; refine wpList_append_sl rfl (.tmp 92) (.tmp 94) 57 rfl 56 i0 (.agg #[.int .i64 0, .bool false]) 2 16 Tryd.underlying57 hinf hz0 hz1 hz2 rfl (by decide) (.slice (some ⟨tg, toff, none⟩) m1 tcap) m1 (kx ((k, true) :: t)) rfl ?sl _ 1 1 [.int .i64 k3, .bool c1] rfl rfl HCN.out ?one (by unfold maxLen; omega) (by omega) ?next)
                        case sl =>
                          have := HSL.out.alloc (.cells #[.int .i64 k3, .bool c1] 56)
                          rw [List.length_cons, HMM.out.1, HMM.out.2] at this
                          exact this
                        case one => intro u hu; simp at hu; rcases hu with rfl | rfl <;> rfl
                        case next =>
                          intro v' w9 hs9 hf9 hv9
                          have hD9 := HD8.out.todo (T' := (k3, c1) :: (k, true) :: t) (((Fr.refl _ _).alloc _).trans hf9) (by
                            have := HMM.out
                            rw [show ((k3, c1) :: (k, true) :: t).length = m1 + 1 by simp; omega]
                            exact hs9) (fun q hq => by
                            rcases hv9 with e | e
                            · exact .inl (e ▸ hq)
                            · rw [e] at hq; cases hq; exact .inr (by simp))
                          have HD9 := Lib.hid hD9
                          clear hs9 hf9 hv9 hD9
                          go_wp2_with fail
                          go_step3
                          refine And.intro rfl ⟨gk - 1, by have := HGG.out; have := HGN.out; omega, _, _, _, _, _, _, _, _, _, _, _, _, _, _, _, _, _, _, _, _, _, _, _, _, _, _, _, _, _, _, _, _, _, _, _, _, _, _, _, _, _, _, _, _, _, _, _, _, _, _, _, _, _, _, _, _, _, _, _, _, _, _, _, _, _, _, _, _, _, _, _, _, _, _, _, _, _, _, _, _, _, _, _, _, _, _, _, _, _, _, _, _, _, _, _, _, _, _, _, _, _, _, _, _, _, _, _, _, _, rfl, ?_⟩
                          exact ⟨_, sv7, _, HD9.out, rfl, HB.out.2.2.1, by have h1 := HB.out; have h2 := HTL.out; simp only at h1 ⊢; (simp only [List.length_append, List.length_cons, List.length_nil] at h1 ⊢; omega), by have h1 := HB.out; have h2 := HTL.out; have h3 := HMM.out; simp only [List.length_cons] at h1 ⊢; omega, by have h1 := HB.out; have h2 := HTL.out; have h3 := HMM.out; have h4 := HGG.out; have h5 := HN.out; simp only [List.length_cons] at h1 ⊢; omega, (fun x hx => by
                            rcases List.mem_cons.1 hx with rfl | hx
                            · exact hk1
                            · exact HK1025.out x hx), HK7.out⟩
      · have HF : Hid (X = .bad 60 0) := Lib.hid (by
          rw [HX.out]; unfold decD
          rw [if_neg (by rw [HN.out]; omega), if_pos (.inr (fun e => hb (by simp at e; rw [← hy, e]; rfl)))])
        have q3 : ((y : Int) != 131) = true := by simp; omega
        have q4 : (y != 131) = true := by simp; omega
        clear hbig hz hb
        go_enter Tryd.func10, Tryd.ntmps10
        go_wp2_with fail
        go_step3
        go_wp2_with fail
        try rw [Exit.noGoto_ret]
        try rw [jump_ret]
        go_ret3
        exact ⟨ResP.badI HF.out rfl, Below.refl _ _⟩
end Go.Proofs.YtkhjdcnlpablkaaDoor
