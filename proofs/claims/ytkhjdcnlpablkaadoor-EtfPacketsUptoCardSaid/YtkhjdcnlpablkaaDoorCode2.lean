/- encode, encodeList: every term. -/
import Derived.Test.YtkhjdcnlpablkaaDoorCode
namespace Go.Proofs.YtkhjdcnlpablkaaDoor
open Go.RowKit
open Go.Lib (byteCells strCells)

theorem isNil_fst {t : T} (h : t.wf) : isNil t = decide (t.fst.kind = 6) := by
  cases t with
  | leaf c => rfl
  | tup c ks => exact (decide_eq_false (fun e => by have h1 := h.2.1; have h2 : c.kind = 6 := e; omega)).symm
  | cons a b => exact (decide_eq_false (fun e => absurd (show (7 : Int) = 6 from e) (by decide))).symm

theorem drop_tail (a : T) : ∀ {t : List Ce} {k : Nat} {r : List Ce}, t.drop k = a.cells ++ r → t.drop (k + spLen a) = (tailT a).cells ++ r := by
  induction a using T.byTail with
  | hl c => intro t k r h; simpa [spLen, tailT] using h
  | ht c ks => intro t k r h; simpa [spLen, tailT] using h
  | hc h y ih =>
    intro t k r hd
    have h1 : t.drop (k + (1 + h.sz)) = y.cells ++ r := drop_next (a := consC :: h.cells) (by rw [hd]; simp [T.cells]) (by simp [T.sz]; omega)
    have := ih h1
    rw [show k + (1 + h.sz) + spLen y = k + spLen (T.cons h y) by simp only [spLen]; omega] at this
    simpa only [tailT] using this

theorem encL_app : ∀ a b : List T, T.encL (a ++ b) = T.encL a ++ T.encL b
  | [], b => by simp [encL_nil]
  | k :: ks, b => by simp only [List.cons_append, encL_cons, encL_app ks b, List.append_assoc]

theorem tail_nil {x : T} (h : runLen x = 0) : tailT x = x ∧ x.encT = x.enc := by
  cases x with
  | leaf c => exact ⟨rfl, encT_leaf c⟩
  | tup c ks => exact ⟨rfl, encT_tup c ks⟩
  | cons a b => simp [runLen] at h

set_option maxHeartbeats 3200000 in
set_option maxRecDepth 100000 in
theorem enc_tup_any (t : List Ce) (tv : Value) (hlen : t.length ≤ 1024) (c : Ce) (ks : List T) (hw : (T.tup c ks).wf) (ih : ∀ k ∈ ks, ENC t tv k) : ENC t tv (.tup c ks) := by
  intro B w bv xs at' r hB hR hbs hl hd
  obtain ⟨ao, cap, rfl, hcap, hmax⟩ := hR.now.shape
  unfold maxLen at hmax
  have hmem := drop_fst hd
  have hat := (List.getElem?_eq_some_iff.1 hmem).1
  have hrd := hR.now
  obtain ⟨g0, off, cap', hv, hq1, hq2, hq3⟩ := hrd.at (by omega)
  clear hq1 hq2 hq3
  simp at hv
  obtain ⟨rfl, rfl⟩ := hv
  obtain ⟨c0, c1, c2⟩ := rd_cell hrd rfl hmem
  obtain ⟨hE, h5, hcn, hks⟩ := hw
  have hr := (E_rest hE).2.2.1 h5
  obtain ⟨k, n, s⟩ := c
  simp only [T.fst] at c0 c1 c2
  simp only at h5 hcn hr
  subst h5
  obtain ⟨hr1, hr2⟩ := hr
  have hfs : (at' : Int) < (t.length : Int) := by omega
  have hd1 : t.drop (at' + 1) = T.cellsL ks ++ r := drop_next (a := [⟨5, n, s⟩]) (by rw [hd]; simp [T.cells]) rfl
  rw [sz_tup] at hl ⊢
  rw [enc_tup]
  have HX := Lib.hid (heap_alloc_new w (.cells #[.int .i64 5, .int .i64 n, .string s] 60))
  have HBX := Lib.hid (bel_box w (.cells #[.int .i64 5, .int .i64 n, .string s] 60))
  have H := Lib.hid (hbs.alloc (.cells #[.int .i64 5, .int .i64 n, .string s] 60))
  have hz : (w.alloc (.cells #[.int .i64 5, .int .i64 n, .string s] 60)).heap.size = w.heap.size + 1 := by simp
  have HZ := Lib.hid hz
  have HB1 : Hid (B ≤ (w.alloc (.cells #[.int .i64 5, .int .i64 n, .string s] 60)).heap.size) := Lib.hid (by rw [hz]; omega)
  have HR := Lib.hid hR
  have HD := Lib.hid hd1
  have HKS := Lib.hid hks
  have HIH := Lib.hid ih
  have HCN := Lib.hid hcn
  clear hd hR hrd hmem hbs hE hz hd1 hks ih hcn
  go_enter Tryd.func35, Tryd.ntmps35
  go_wp2_with (at_builtin; refine wpList_bytesAt (.tmp 79) (.tmp 83) [104, b8 n] _ 2 _ HZ.out.symm rfl rfl rfl rfl H.out (by simp [byteCells, b8_val]; try omega) rfl HB1.out (by omega) ?next)
  case next =>
    intro v1 w1 h1
    have hx1 := h1.box H.out HX.out
    have hz1 := h1.fr.size
    rw [HZ.out] at hz1
    have H1 := Lib.hid (Wr.behind HBX.out hB h1)
    clear h1 c0 c1 c2
    have hy1 := blk_cell hx1 1
    simp at hy1
    clear hx1
    go_wp2_with fail
    clear hy1
    go_loopg [0, 2, 89] ks.length (fun g s0 s2 s89 wr => ∃ (j k : Nat) (pre post : List T), s2 = .int .i64 k ∧ s89 = .int .i64 j ∧ post.length = g ∧
      Hid (ks = pre ++ post ∧ pre.length = j ∧ k = at' + 1 + T.szL pre ∧ t.drop k = T.cellsL post ++ r ∧ Wr B w bv wr s0 (xs ++ [104, b8 n] ++ T.encL pre)))
    case atStart => exact ⟨0, at' + 1, [], ks, by go_num, rfl, rfl, Lib.hid ⟨rfl, rfl, rfl, HD.out, by have := H1.out; simpa [encL_nil] using this⟩⟩
    case round =>
      clear H1 HD hz1
      obtain ⟨j, k, pre, post, rfl, rfl, hg, hI⟩ := hrel
      obtain ⟨e1, e2, e3, e4, e5⟩ := hI.out
      cases post with
      | nil =>
        have hjn : (j : Int) = n := by rw [HCN.out, e1, ← e2]; simp
        have q : decide ((j : Int) < n) = false := decide_eq_false (by omega)
        have HF : Hid (k = at' + (1 + T.szL ks) ∧ Wr B w bv wr u0 (xs ++ ([104, b8 n] ++ T.encL ks))) := Lib.hid ⟨by rw [e3, e1]; simp; omega, by rw [e1]; simpa using e5⟩
        clear hI e1 e2 e3 e4 e5
        go_wp2_with fail
        go_ret2
        exact ⟨_, by rw [← HF.out.1]; rfl, HF.out.2⟩
      | cons k0 post =>
        have hjn : (j : Int) < n := by rw [HCN.out, e1, ← e2]; simp; omega
        have q : decide ((j : Int) < n) = true := decide_eq_true hjn
        have hk0 : k0 ∈ ks := by rw [e1]; simp
        have hw0 := wfL_mem HKS.out k0 hk0
        have hszks : T.szL ks = T.szL pre + (k0.sz + T.szL post) := by rw [e1]; unfold T.szL T.sz; rw [cellsL_app]; simp [T.cellsL]
        have hel : (T.encL pre).length ≤ 1040 * T.szL pre := encL_len (by have h := HKS.out; rw [e1] at h; exact ((wfL_app _ _).1 h).1)
        have hbw := e5.bel.size
        have H0 := Lib.hid (HIH.out k0 hk0 B wr u0 (xs ++ [104, b8 n] ++ T.encL pre) k (T.cellsL post ++ r) (by have := e5.fr.size; omega) (HR.out.step e5.bel) e5.bs (by simp; omega) (by rw [e4]; simp [T.cellsL]))
        have HW := Lib.hid e5
        have HN : Hid (ks = (pre ++ [k0]) ++ post ∧ (pre ++ [k0]).length = j + 1 ∧ k + k0.sz = at' + 1 + T.szL (pre ++ [k0]) ∧ t.drop (k + k0.sz) = T.cellsL post ++ r ∧ T.encL (pre ++ [k0]) = T.encL pre ++ k0.enc) :=
          Lib.hid ⟨by rw [e1]; simp, by simp; omega, by unfold T.szL T.sz; rw [cellsL_app]; simp [T.cellsL]; unfold T.szL at e3; omega, drop_next (a := k0.cells) (by rw [e4]; simp [T.cellsL]) rfl, by rw [encL_app, encL_cons, encL_nil, List.append_nil]⟩
        clear hI e1 e2 e3 e4 e5 hel hw0 hszks
        go_wp2_with fail
        refine (H0.out).mono ?_
        rintro e w5 ⟨v5, rfl, h5⟩
        have H5 := Lib.hid (HW.out.trans h5)
        clear h5
        go_wp2_with fail
        go_roundg post.length
        case measure => simp at hg; omega
        case rel => exact ⟨j + 1, k + k0.sz, pre ++ [k0], post, rfl, by go_num, rfl, Lib.hid ⟨HN.out.1, HN.out.2.1, HN.out.2.2.1, HN.out.2.2.2.1, by rw [HN.out.2.2.2.2]; have := H5.out; simpa using this⟩⟩

set_option maxHeartbeats 6400000 in
set_option maxRecDepth 100000 in
theorem encl_any (t : List Ce) (tv : Value) (hlen : t.length ≤ 1024) (a : T) (ha : ∃ h y, a = .cons h y) (hw : a.wf) (ih : ∀ x : T, x.sz < a.sz → x.wf → ENC t tv x) : ENCL t tv a := by
  intro B w bv xs at' r hB hR hbs hl hd
  obtain ⟨ao, cap, rfl, hcap, hmax⟩ := hR.now.shape
  unfold maxLen at hmax
  have hrun := run_le a
  have hal : at' + a.sz ≤ t.length := by
    have := congrArg List.length hd
    rw [List.length_drop, List.length_append] at this
    have h1 := sz_pos a
    unfold T.sz at *
    omega
  have hdt := drop_tail a hd
  have htw := tail_wf hw
  have hnil := isNil_fst htw
  have H82 := Lib.hid (run_any t _ hlen at' a r hw hd w hR.now)
  have HR := Lib.hid hR
  have HD := Lib.hid hd
  have HDT := Lib.hid hdt
  have HIH := Lib.hid ih
  have H := Lib.hid hbs
  have htp := sz_pos (tailT a)
  have hel := enc_len hw
  clear hR hd hdt ih hbs
  obtain ⟨rl, hrl⟩ : ∃ n, runLen a = n := ⟨_, rfl⟩
  obtain ⟨sl, hsl⟩ : ∃ n, spLen a = n := ⟨_, rfl⟩
  rw [hrl, hsl] at H82 hrun
  rw [hsl] at HDT
  have hrlb : (rl : Int) ≤ 1024 := by omega
  have hends : ((at' + sl : Nat) : Int) < (t.length : Int) := by omega
  have hpos0 : (0 : Int) ≤ ((at' + sl : Nat) : Int) := by omega
  obtain ⟨en, hen⟩ : ∃ n, at' + sl = n := ⟨_, rfl⟩
  rw [hen] at H82 HDT hends hpos0
  -- the tail's own kind, once the run is told
  have HTC : Hid (∀ w1, Below w.heap.size w w1 → ∃ g0 off, ao = some ⟨g0, off, none⟩ ∧ w1.cell? ⟨g0, off + en * 3, none⟩ = some (.int .i64 (tailT a).fst.kind)) := Lib.hid (fun w1 hb1 => by
    have hrd := (HR.out.step (hb1.mono hB)).now
    obtain ⟨g0, off, cap', hv, _, _, _⟩ := hrd.at (by omega)
    simp at hv
    obtain ⟨rfl, rfl⟩ := hv
    exact ⟨g0, off, rfl, (rd_cell hrd rfl (drop_fst HDT.out)).1⟩)
  have HW := Lib.hid hw
  have HRL := Lib.hid hrl
  have HEN := Lib.hid hen
  by_cases hok : charsOk a = true
  · have HF : Hid (a.enc = [107] ++ be2 (rl : Int) ++ charB a) := Lib.hid (by
      obtain ⟨h, y, rfl⟩ := ha
      rw [enc_cons, if_pos hok, hrl])
    unfold charsOk at hok
    simp only [Bool.and_eq_true] at hok
    obtain ⟨⟨hall, hni⟩, _⟩ := hok
    have HALL := Lib.hid hall
    have HNI := Lib.hid hni
    rw [hni] at hnil
    have h6 : (tailT a).fst.kind = 6 := by simpa using hnil.symm
    rw [h6] at HTC
    rw [hall] at H82
    clear hall hni hnil h6 hw hrl hsl hen htw
    go_enter Tryd.func70, Tryd.ntmps70
    go_wp2_with fail
    refine (H82.out).mono ?_
    rintro e w1 ⟨rfl, hb1⟩
    obtain ⟨g0, off, rfl, hc6⟩ := HTC.out w1 hb1
    have HB1 := Lib.hid hb1
    have hz1 := hb1.size
    have H1 := Lib.hid (H.out.below hb1)
    clear hb1
    go_wp2_with (at_builtin; refine wpList_bytes (.tmp 31) (.tmp 32) [107] _ 1 rfl rfl rfl rfl H1.out rfl rfl (by omega) (by omega) ?next)
    case next =>
      intro v2 w2 h2
      have H2 := Lib.hid h2
      have hz2 := h2.fr.size
      clear h2 hc6
      go_wp2_with fail
      refine (put16_any B v2 _ (rl : Int) w2 (by omega) H2.out.bs (by simp; omega)).mono ?_
      rintro e w3 ⟨v3, rfl, h3⟩
      have H3 := Lib.hid (Wr.behind HB1.out hB (H2.out.trans h3))
      clear h3
      go_wp2_with fail
      go_loopg [0, 2] rl (fun g s0 s2 wr => ∃ (k : Nat) (x : T) (done : List UInt8), s2 = .int .i64 k ∧ runLen x = g ∧ x.sz ≤ a.sz ∧ k + x.sz ≤ t.length ∧ k + x.sz = at' + a.sz ∧
        Hid (x.wf ∧ allB x = true ∧ isNil (tailT x) = true ∧ t.drop k = x.cells ++ r ∧ done ++ charB x = charB a ∧ done.length + runLen x = rl ∧ Wr B w bv wr s0 (xs ++ [107] ++ be2 (rl : Int) ++ done)))
      case atStart => exact ⟨at', a, [], rfl, HRL.out, Nat.le_refl _, hal, rfl, Lib.hid ⟨HW.out, HALL.out, HNI.out, HD.out, rfl, by have := HRL.out; simp; omega, by have := H3.out; simpa using this⟩⟩
      case round =>
        clear H3 HD hal
        obtain ⟨k, x, done, rfl, hg, hxs, hkx, hka, hI⟩ := hrel
        obtain ⟨hxw, hxa, hxn, hxd, hx1, hx2, hx3⟩ := hI.out
        have hxp := sz_pos x
        have hrd := (HR.out.step hx3.bel).now
        obtain ⟨c0, c1, c2⟩ := rd_cell hrd rfl (drop_fst hxd)
        have hkt : (k : Int) < (t.length : Int) := by omega
        have hbz := hx3.bel.size
        by_cases h7 : x.fst.kind = 7
        · obtain ⟨h, y, rfl⟩ := (fst_seven hxw).1 h7
          simp only [allB, Bool.and_eq_true] at hxa
          cases h with
          | tup c ks => simp [isByte] at hxa
          | cons p q => simp [isByte] at hxa
          | leaf c =>
            have hdh : t.drop (k + 1) = (T.leaf c).cells ++ (y.cells ++ r) := drop_next (m := 1) (a := [consC]) (by rw [hxd]; simp [T.cells]) rfl
            obtain ⟨d0, d1, d2⟩ := rd_cell hrd rfl (drop_fst hdh)
            have hc := hxa.1
            simp [isByte] at hc
            obtain ⟨_, hcn1, hcn2⟩ := hc
            simp only [T.fst] at d0 d1 d2
            obtain ⟨ck, n, cs⟩ := c
            simp only at hcn1 hcn2 d0 d1 d2
            have hdy : t.drop (k + 2) = y.cells ++ r := drop_next (m := 1) hdh (by simp [T.cells])
            have hsz : (T.cons (.leaf ⟨ck, n, cs⟩) y).sz = 2 + y.sz := by rw [sz_cons, sz_leaf]
            have hyp := sz_pos y
            have c0' : wr.cell? ⟨g0, off + k * 3, none⟩ = some (.int .i64 7) := c0
            have hk1 : (k : Int) + 1 < (t.length : Int) := by omega
            have HX3 := Lib.hid hx3
            have hdl : done.length ≤ 1024 := by omega
            have HN : ∀ (wq : World) (v : Value), Wr B w bv wq v (xs ++ [107] ++ be2 (rl : Int) ++ (done ++ [b8 n])) → Hid (y.wf ∧ allB y = true ∧ isNil (tailT y) = true ∧ t.drop (k + 2) = y.cells ++ r ∧ (done ++ [b8 n]) ++ charB y = charB a ∧ (done ++ [b8 n]).length + runLen y = rl ∧ Wr B w bv wq v (xs ++ [107] ++ be2 (rl : Int) ++ (done ++ [b8 n]))) :=
              fun wq v hwr => Lib.hid ⟨hxw.2, hxa.2, hxn, hdy, by rw [← hx1]; simp [charB], by simp only [runLen] at hx2; simp; omega, hwr⟩
            have HHN := Lib.hid HN
            have HG : Hid (runLen y + 1 = gk ∧ y.sz ≤ a.sz ∧ k + 2 + y.sz ≤ t.length ∧ k + 2 + y.sz = at' + a.sz) := Lib.hid ⟨by simpa only [runLen] using hg, by omega, by omega, by omega⟩
            have hBr : B ≤ wr.heap.size := by omega
            clear hI hxw hxa hxn hxd hx1 hx2 hx3 hrd c0 c1 c2 h7 hdh hdy hsz HN hg
            go_wp2_with (at_builtin; refine wpList_bytes (.tmp 44) (.tmp 52) [b8 n] _ 1 rfl rfl rfl rfl HX3.out.bs (by simp [byteCells, b8_val]; try omega) rfl hBr (by simp [be2]; omega) ?next)
            case next =>
              intro v5 w5 h5
              have H5 := Lib.hid (HHN.out w5 v5 (by have := HX3.out.trans h5; simpa using this))
              clear h5
              go_wp2_with fail
              go_roundg (gk - 1)
              case measure => have := HG.out.1; omega
              case rel => exact ⟨k + 2, y, done ++ [b8 n], by go_num, by have := HG.out.1; omega, HG.out.2.1, HG.out.2.2.1, HG.out.2.2.2, H5.out⟩
        · have hr0 : runLen x = 0 ∧ charB x = [] := by
            cases x with
            | leaf c => exact ⟨rfl, rfl⟩
            | tup c ks => exact ⟨rfl, rfl⟩
            | cons p q => exact (h7 rfl).elim
          have hx1s : x.sz = 1 := by
            rw [(tail_nil hr0.1).1] at hxn
            cases x with
            | leaf c => exact sz_leaf c
            | tup c ks => simp [isNil] at hxn
            | cons p q => simp [isNil] at hxn
          have HG : Hid (at' + a.sz = k + 1 ∧ Wr B w bv wr u0 (xs ++ a.enc)) := Lib.hid ⟨by omega, by rw [HF.out, ← hx1, hr0.2]; simpa using hx3⟩
          have q7 : (x.fst.kind == 7) = false := by simp; omega
          clear hI hxw hxa hxn hxd hx1 hx2 hx3 hrd h7 hr0 hx1s
          go_wp2_with fail
          go_ret2
          exact ⟨_, by rw [HG.out.1]; rfl, HG.out.2⟩
  · have HF : Hid (a.enc = [108] ++ be4 (rl : Int) ++ a.encT) := Lib.hid (by
      obtain ⟨h, y, rfl⟩ := ha
      rw [enc_cons, if_neg hok, hrl, encT_cons])
    have hor : allB a = false ∨ (allB a = true ∧ isNil (tailT a) = false) := by
      cases h1 : allB a with
      | false => exact .inl rfl
      | true =>
        refine .inr ⟨rfl, ?_⟩
        cases h2 : isNil (tailT a) with
        | false => rfl
        | true => exact (hok (by unfold charsOk; rw [h1, h2, hrl, decide_eq_true (by omega)]; rfl)).elim
    clear hok
    rcases hor with hall | ⟨hall, hni⟩
    · rw [hall] at H82
      clear hall hnil hw hrl hsl hen htw
      go_enter Tryd.func70, Tryd.ntmps70
      go_wp2_with fail
      refine (H82.out).mono ?_
      rintro e w1 ⟨rfl, hb1⟩
      have hbc : Below w.heap.size w w1 ∧ True := ⟨hb1, trivial⟩
      clear hb1
      obtain ⟨hb1, hc6⟩ := hbc
      have HB1 := Lib.hid hb1
      have hz1 := hb1.size
      have H1 := Lib.hid (H.out.below hb1)
      clear hb1
      go_wp2_with (at_builtin; refine wpList_bytes (.tmp 57) (.tmp 58) [108] _ 1 rfl rfl rfl rfl H1.out rfl rfl (by omega) (by omega) ?next)
      case next =>
        intro v2 w2 h2
        have H2 := Lib.hid h2
        have hz2 := h2.fr.size
        clear h2 hc6
        go_wp2_with fail
        refine (put32_any B v2 _ (rl : Int) w2 (by omega) H2.out.bs (by simp; omega)).mono ?_
        rintro e w3 ⟨v3, rfl, h3⟩
        have H3 := Lib.hid (Wr.behind HB1.out hB (H2.out.trans h3))
        clear h3
        go_wp2_with fail
        go_loopg [0, 2, 63] rl (fun g s0 s2 s63 wr => ∃ (j k : Nat) (x : T) (done : List UInt8), s2 = .int .i64 k ∧ s63 = .int .i64 j ∧ j + g = rl ∧ runLen x = g ∧ k + x.sz ≤ t.length ∧ k + x.sz = at' + a.sz ∧
          ((x = a ∧ done = []) ∨ (x.sz < a.sz ∧ done.length + 1040 * x.sz + 1040 ≤ 1040 * a.sz)) ∧
          Hid (x.wf ∧ t.drop k = x.cells ++ r ∧ done ++ x.encT = a.encT ∧ Wr B w bv wr s0 (xs ++ [108] ++ be4 (rl : Int) ++ done)))
        case atStart => exact ⟨0, at', a, [], rfl, rfl, by omega, HRL.out, hal, rfl, .inl ⟨rfl, rfl⟩, Lib.hid ⟨HW.out, HD.out, rfl, by have := H3.out; simpa using this⟩⟩
        case round =>
          clear H3 HD hal
          obtain ⟨j, k, x, done, rfl, rfl, hj, hg, hkx, hka, hdn, hI⟩ := hrel
          obtain ⟨hxw, hxd, hx1, hx3⟩ := hI.out
          have hxp := sz_pos x
          have hbz := hx3.bel.size
          have HX3 := Lib.hid hx3
          have HRW := Lib.hid (HR.out.step hx3.bel)
          cases gk with
          | zero =>
            have hra : 1 ≤ rl := by
              obtain ⟨h, y, rfl⟩ := ha
              have := HRL.out
              simp only [runLen] at this
              omega
            have hdn2 : x.sz < a.sz ∧ done.length + 1040 * x.sz + 1040 ≤ 1040 * a.sz := by
              rcases hdn with ⟨rfl, _⟩ | h
              · have := HRL.out; omega
              · exact h
            obtain ⟨hdn2, hdn3⟩ := hdn2
            have H0 := Lib.hid (HIH.out x hdn2 hxw B wr u0 (xs ++ [108] ++ be4 (rl : Int) ++ done) k r (by omega) HRW.out hx3.bs (by simp [be4]; omega) hxd)
            have HG : Hid (a.enc = [108] ++ be4 (rl : Int) ++ done ++ x.enc ∧ k + x.sz = at' + a.sz) := Lib.hid ⟨by rw [HF.out, ← hx1, (tail_nil hg).2]; simp, hka⟩
            have q8 : decide ((j : Int) < (rl : Int)) = false := decide_eq_false (by omega)
            have q9 : decide (j < rl) = false := decide_eq_false (by omega)
            clear hI hxw hxd hx1 hx3 hdn HIH HTC H82
            go_wp2_with fail
            refine (H0.out).mono ?_
            rintro e w5 ⟨v5, rfl, h5⟩
            have H5 := Lib.hid (HX3.out.trans h5)
            clear h5
            go_wp2_with fail
            go_ret2
            exact ⟨_, by first | rfl | (rw [← HG.out.2]; rfl), by rw [HG.out.1]; have := H5.out; simpa using this⟩
          | succ g =>
            have hc : ∃ h y, x = .cons h y := by
              cases x with
              | leaf c => simp [runLen] at hg
              | tup c ks => simp [runLen] at hg
              | cons h y => exact ⟨h, y, rfl⟩
            obtain ⟨h, y, rfl⟩ := hc
            have hsz := sz_cons h y
            have hp1 := sz_pos h
            have hp2 := sz_pos y
            have hdh : t.drop (k + 1) = h.cells ++ (y.cells ++ r) := drop_next (a := [consC]) (by rw [hxd]; simp [T.cells]) rfl
            have hdy : t.drop (k + 1 + h.sz) = y.cells ++ r := drop_next hdh rfl
            have hdl : done.length + 1040 * (T.cons h y).sz ≤ 1040 * a.sz := by
              rcases hdn with ⟨rfl, rfl⟩ | ⟨h1, h2⟩
              · simp
              · omega
            have hasz : (T.cons h y).sz ≤ a.sz := by
              rcases hdn with ⟨rfl, _⟩ | ⟨h1, _⟩
              · omega
              · omega
            have H0 := HIH.out h (by omega) hxw.1 B wr u0 (xs ++ [108] ++ be4 (rl : Int) ++ done) (k + 1) (y.cells ++ r) (by omega) HRW.out hx3.bs (by simp [be4]; omega) hdh
            rw [show ((k + 1 : Nat) : Int) = (k : Int) + 1 by omega] at H0
            have HH0 := Lib.hid H0
            have hlh := (enc_len hxw.1).1
            have HG : Hid (runLen y = g ∧ k + 1 + h.sz + y.sz ≤ t.length ∧ k + 1 + h.sz + y.sz = at' + a.sz ∧ y.sz < a.sz ∧ (done ++ h.enc).length + 1040 * y.sz + 1040 ≤ 1040 * a.sz ∧ y.wf ∧ t.drop (k + 1 + h.sz) = y.cells ++ r ∧ (done ++ h.enc) ++ y.encT = a.encT) :=
              Lib.hid ⟨by simp only [runLen] at hg; omega, by omega, by omega, by omega, by rw [List.length_append]; omega, hxw.2, hdy, by rw [← hx1, encT_cons]; simp⟩
            have q8 : decide ((j : Int) < (rl : Int)) = true := decide_eq_true (by omega)
            have q9 : decide (j < rl) = true := decide_eq_true (by omega)
            clear hI hxw hxd hx1 hx3 hdn hdh hdy hdl hlh H0 hsz hasz HTC H82
            go_wp2_with fail
            refine (HH0.out).mono ?_
            rintro e w5 ⟨v5, rfl, h5⟩
            have H5 := Lib.hid (HX3.out.trans h5)
            clear h5
            go_wp2_with fail
            go_roundg g
            case measure => omega
            case rel => exact ⟨j + 1, k + 1 + h.sz, y, done ++ h.enc, rfl, by go_num, by omega, HG.out.1, HG.out.2.1, HG.out.2.2.1, .inr ⟨HG.out.2.2.2.1, HG.out.2.2.2.2.1⟩, Lib.hid ⟨HG.out.2.2.2.2.2.1, HG.out.2.2.2.2.2.2.1, HG.out.2.2.2.2.2.2.2, by have := H5.out; simpa using this⟩⟩
    · rw [hall] at H82
      rw [hni] at hnil
      have h6 : ¬ (tailT a).fst.kind = 6 := by simpa using hnil.symm
      obtain ⟨kd, hkd⟩ : ∃ kd, (tailT a).fst.kind = kd := ⟨_, rfl⟩
      rw [hkd] at HTC h6
      have q6 : (kd == 6) = false := by simp; omega
      clear hall hni hnil h6 hkd hw hrl hsl hen htw
      go_enter Tryd.func70, Tryd.ntmps70
      go_wp2_with fail
      refine (H82.out).mono ?_
      rintro e w1 ⟨rfl, hb1⟩
      obtain ⟨g0, off, rfl, hc6⟩ := HTC.out w1 hb1
      have hbc : Below w.heap.size w w1 ∧ w1.cell? ⟨g0, off + en * 3, none⟩ = some (.int .i64 kd) := ⟨hb1, hc6⟩
      clear hb1 hc6
      obtain ⟨hb1, hc6⟩ := hbc
      have HB1 := Lib.hid hb1
      have hz1 := hb1.size
      have H1 := Lib.hid (H.out.below hb1)
      clear hb1
      go_wp2_with (at_builtin; refine wpList_bytes (.tmp 57) (.tmp 58) [108] _ 1 rfl rfl rfl rfl H1.out rfl rfl (by omega) (by omega) ?next)
      case next =>
        intro v2 w2 h2
        have H2 := Lib.hid h2
        have hz2 := h2.fr.size
        clear h2 hc6
        go_wp2_with fail
        refine (put32_any B v2 _ (rl : Int) w2 (by omega) H2.out.bs (by simp; omega)).mono ?_
        rintro e w3 ⟨v3, rfl, h3⟩
        have H3 := Lib.hid (Wr.behind HB1.out hB (H2.out.trans h3))
        clear h3
        go_wp2_with fail
        go_loopg [0, 2, 63] rl (fun g s0 s2 s63 wr => ∃ (j k : Nat) (x : T) (done : List UInt8), s2 = .int .i64 k ∧ s63 = .int .i64 j ∧ j + g = rl ∧ runLen x = g ∧ k + x.sz ≤ t.length ∧ k + x.sz = at' + a.sz ∧
          ((x = a ∧ done = []) ∨ (x.sz < a.sz ∧ done.length + 1040 * x.sz + 1040 ≤ 1040 * a.sz)) ∧
          Hid (x.wf ∧ t.drop k = x.cells ++ r ∧ done ++ x.encT = a.encT ∧ Wr B w bv wr s0 (xs ++ [108] ++ be4 (rl : Int) ++ done)))
        case atStart => exact ⟨0, at', a, [], rfl, rfl, by omega, HRL.out, hal, rfl, .inl ⟨rfl, rfl⟩, Lib.hid ⟨HW.out, HD.out, rfl, by have := H3.out; simpa using this⟩⟩
        case round =>
          clear H3 HD hal
          obtain ⟨j, k, x, done, rfl, rfl, hj, hg, hkx, hka, hdn, hI⟩ := hrel
          obtain ⟨hxw, hxd, hx1, hx3⟩ := hI.out
          have hxp := sz_pos x
          have hbz := hx3.bel.size
          have HX3 := Lib.hid hx3
          have HRW := Lib.hid (HR.out.step hx3.bel)
          cases gk with
          | zero =>
            have hra : 1 ≤ rl := by
              obtain ⟨h, y, rfl⟩ := ha
              have := HRL.out
              simp only [runLen] at this
              omega
            have hdn2 : x.sz < a.sz ∧ done.length + 1040 * x.sz + 1040 ≤ 1040 * a.sz := by
              rcases hdn with ⟨rfl, _⟩ | h
              · have := HRL.out; omega
              · exact h
            obtain ⟨hdn2, hdn3⟩ := hdn2
            have H0 := Lib.hid (HIH.out x hdn2 hxw B wr u0 (xs ++ [108] ++ be4 (rl : Int) ++ done) k r (by omega) HRW.out hx3.bs (by simp [be4]; omega) hxd)
            have HG : Hid (a.enc = [108] ++ be4 (rl : Int) ++ done ++ x.enc ∧ k + x.sz = at' + a.sz) := Lib.hid ⟨by rw [HF.out, ← hx1, (tail_nil hg).2]; simp, hka⟩
            have q8 : decide ((j : Int) < (rl : Int)) = false := decide_eq_false (by omega)
            have q9 : decide (j < rl) = false := decide_eq_false (by omega)
            clear hI hxw hxd hx1 hx3 hdn HIH HTC H82
            go_wp2_with fail
            refine (H0.out).mono ?_
            rintro e w5 ⟨v5, rfl, h5⟩
            have H5 := Lib.hid (HX3.out.trans h5)
            clear h5
            go_wp2_with fail
            go_ret2
            exact ⟨_, by first | rfl | (rw [← HG.out.2]; rfl), by rw [HG.out.1]; have := H5.out; simpa using this⟩
          | succ g =>
            have hc : ∃ h y, x = .cons h y := by
              cases x with
              | leaf c => simp [runLen] at hg
              | tup c ks => simp [runLen] at hg
              | cons h y => exact ⟨h, y, rfl⟩
            obtain ⟨h, y, rfl⟩ := hc
            have hsz := sz_cons h y
            have hp1 := sz_pos h
            have hp2 := sz_pos y
            have hdh : t.drop (k + 1) = h.cells ++ (y.cells ++ r) := drop_next (a := [consC]) (by rw [hxd]; simp [T.cells]) rfl
            have hdy : t.drop (k + 1 + h.sz) = y.cells ++ r := drop_next hdh rfl
            have hdl : done.length + 1040 * (T.cons h y).sz ≤ 1040 * a.sz := by
              rcases hdn with ⟨rfl, rfl⟩ | ⟨h1, h2⟩
              · simp
              · omega
            have hasz : (T.cons h y).sz ≤ a.sz := by
              rcases hdn with ⟨rfl, _⟩ | ⟨h1, _⟩
              · omega
              · omega
            have H0 := HIH.out h (by omega) hxw.1 B wr u0 (xs ++ [108] ++ be4 (rl : Int) ++ done) (k + 1) (y.cells ++ r) (by omega) HRW.out hx3.bs (by simp [be4]; omega) hdh
            rw [show ((k + 1 : Nat) : Int) = (k : Int) + 1 by omega] at H0
            have HH0 := Lib.hid H0
            have hlh := (enc_len hxw.1).1
            have HG : Hid (runLen y = g ∧ k + 1 + h.sz + y.sz ≤ t.length ∧ k + 1 + h.sz + y.sz = at' + a.sz ∧ y.sz < a.sz ∧ (done ++ h.enc).length + 1040 * y.sz + 1040 ≤ 1040 * a.sz ∧ y.wf ∧ t.drop (k + 1 + h.sz) = y.cells ++ r ∧ (done ++ h.enc) ++ y.encT = a.encT) :=
              Lib.hid ⟨by simp only [runLen] at hg; omega, by omega, by omega, by omega, by rw [List.length_append]; omega, hxw.2, hdy, by rw [← hx1, encT_cons]; simp⟩
            have q8 : decide ((j : Int) < (rl : Int)) = true := decide_eq_true (by omega)
            have q9 : decide (j < rl) = true := decide_eq_true (by omega)
            clear hI hxw hxd hx1 hx3 hdn hdh hdy hdl hlh H0 hsz hasz HTC H82
            go_wp2_with fail
            refine (HH0.out).mono ?_
            rintro e w5 ⟨v5, rfl, h5⟩
            have H5 := Lib.hid (HX3.out.trans h5)
            clear h5
            go_wp2_with fail
            go_roundg g
            case measure => omega
            case rel => exact ⟨j + 1, k + 1 + h.sz, y, done ++ h.enc, rfl, by go_num, by omega, HG.out.1, HG.out.2.1, HG.out.2.2.1, .inr ⟨HG.out.2.2.2.1, HG.out.2.2.2.2.1⟩, Lib.hid ⟨HG.out.2.2.2.2.2.1, HG.out.2.2.2.2.2.2.1, HG.out.2.2.2.2.2.2.2, by have := H5.out; simpa using this⟩⟩

set_option maxHeartbeats 3200000 in
set_option maxRecDepth 100000 in
theorem enc_cons_any (t : List Ce) (tv : Value) (_ : ∀ c ∈ t, -9223372036854775808 ≤ c.n ∧ c.n ≤ 9223372036854775807) (x y : T) (ih : ENCL t tv (.cons x y)) : ENC t tv (.cons x y) := by
  intro B w bv xs at' r hB hR hbs hl hd
  obtain ⟨ao, cap, rfl, hcap, hmax⟩ := hR.now.shape
  unfold maxLen at hmax
  have hmem := drop_fst hd
  have hat := (List.getElem?_eq_some_iff.1 hmem).1
  have hrd := hR.now
  obtain ⟨g0, off, cap', hv, hq1, hq2, hq3⟩ := hrd.at (by omega)
  clear hq1 hq2 hq3
  simp at hv
  obtain ⟨rfl, rfl⟩ := hv
  obtain ⟨c0, c1, c2⟩ := rd_cell hrd rfl hmem
  have c0' : w.cell? ⟨g0, off + at' * 3, none⟩ = some (.int .i64 7) := c0
  have c1' : w.cell? ⟨g0, off + at' * 3 + 1, none⟩ = some (.int .i64 0) := c1
  have c2' : w.cell? ⟨g0, off + at' * 3 + 2, none⟩ = some (.string ⟨#[]⟩) := c2
  have hfs : (at' : Int) < (t.length : Int) := by omega
  have HBX := Lib.hid (bel_box w (.cells #[.int .i64 7, .int .i64 0, .string ⟨#[]⟩] 60))
  have H0 := Lib.hid (ih B (w.alloc (.cells #[.int .i64 7, .int .i64 0, .string ⟨#[]⟩] 60)) bv xs at' r (by simp; omega) (hR.step ((bel_box w _).mono hB)) (hbs.alloc _) hl hd)
  clear hd hR hrd hmem hbs ih c0 c1 c2
  go_enter Tryd.func35, Tryd.ntmps35
  go_wp2_with fail
  refine (H0.out).mono ?_
  rintro e w2 ⟨v2, rfl, h2⟩
  have H2 := Lib.hid (Wr.behind HBX.out hB h2)
  clear h2
  go_wp2_with fail
  go_ret2
  exact ⟨_, rfl, H2.out⟩

theorem enc_all (t : List Ce) (tv : Value) (hlen : t.length ≤ 1024) (hN : ∀ c ∈ t, -9223372036854775808 ≤ c.n ∧ c.n ≤ 9223372036854775807) : ∀ (n : Nat) (a : T), a.sz ≤ n → a.wf → ENC t tv a
  | 0, a, h, _ => by have := sz_pos a; omega
  | n + 1, .leaf c, h, hw => enc_leaf_any t tv hN c hw
  | n + 1, .tup c ks, h, hw => enc_tup_any t tv hlen c ks hw fun k hk => by
      refine enc_all t tv hlen hN n k ?_ (wfL_mem hw.2.2.2 k hk)
      have hm : k.sz ≤ T.szL ks := by
        clear h hw
        induction ks with
        | nil => simp at hk
        | cons x xs ih =>
          rw [szL_cons]
          rcases List.mem_cons.1 hk with rfl | hk
          · omega
          · have := ih hk; omega
      rw [sz_tup] at h
      omega
  | n + 1, .cons x y, h, hw => enc_cons_any t tv hN x y (encl_any t tv hlen (.cons x y) ⟨x, y, rfl⟩ hw fun z hz hzw => enc_all t tv hlen hN n z (by omega) hzw)
end Go.Proofs.YtkhjdcnlpablkaaDoor
