/- Plain: a term's bytes are read as the term. -/
import Derived.Test.YtkhjdcnlpablkaaDoorInv
namespace Go.Proofs.YtkhjdcnlpablkaaDoor

def Ce.i64 (c : Ce) : Prop := -9223372036854775808 ≤ c.n ∧ c.n ≤ 9223372036854775807
def T.ints (a : T) : Prop := ∀ c ∈ a.cells, c.i64

theorem nil_cell {c : Ce} (hE : c.E = 0) (h : c.kind = 6) : c = nilC := by
  obtain ⟨k1, k8, kt, kn, _⟩ := cell_zero hE
  obtain ⟨kind, n, text⟩ := c
  simp only at *
  subst h
  obtain rfl := ba_nil (x := text) (by rcases kt with e | e | e <;> first | omega | exact e)
  obtain rfl : n = 0 := by omega
  rfl
theorem int_cell {c : Ce} (hE : c.E = 0) (h : c.kind = 1) : c = intC c.n := by
  obtain ⟨k1, k8, kt, kn, _⟩ := cell_zero hE
  obtain ⟨kind, n, text⟩ := c
  simp only at *
  subst h
  obtain rfl := ba_nil (x := text) (by rcases kt with e | e | e <;> first | omega | exact e)
  rfl
theorem chars_cells {x : T} (hw : x.wf) (ha : allB x = true) (hn : isNil (tailT x) = true) : x.cells = charCs (charB x) ++ [nilC] ∧ (charB x).length = runLen x ∧ x.sz = 2 * runLen x + 1 := by
  induction x using T.byTail with
  | hl c =>
    have : c.kind = 6 := by simpa [tailT, isNil] using hn
    have := nil_cell hw.1 this
    subst this
    exact ⟨by simp [T.cells, charB, charCs], by simp [charB, runLen], by rw [sz_leaf]; simp [runLen]⟩
  | ht c ks => simp [tailT, isNil] at hn
  | hc h t ih =>
    simp only [allB, Bool.and_eq_true] at ha
    obtain ⟨h1, h2, h3⟩ := ih hw.2 ha.2 hn
    cases h with
    | leaf c =>
      have hb : c.kind = 1 ∧ 0 ≤ c.n ∧ c.n < 256 := by simpa [isByte] using ha.1
      have hc := int_cell hw.1.1 hb.1
      have hv := b8_val c.n
      refine ⟨?_, by simp only [charB, runLen, List.length_cons, h2], by rw [sz_cons, sz_leaf, h3]; simp only [runLen]; omega⟩
      rw [show (T.cons (.leaf c) t).cells = consC :: ((T.leaf c).cells ++ t.cells) by simp [T.cells], h1, show (T.leaf c).cells = [c] by simp [T.cells]]
      rw [show charB (.cons (.leaf c) t) = b8 c.n :: charB t from rfl]
      rw [show charCs (b8 c.n :: charB t) = [consC, intC ((b8 c.n).toNat : Int)] ++ charCs (charB t) from rfl, show ((b8 c.n).toNat : Int) = c.n by omega, ← hc]
      rfl
    | tup c ks => simp [isByte] at ha
    | cons p q => simp [isByte] at ha

/-- A term is read. -/
def TermOk (bs : List UInt8) (s : Rs) (a : T) : Prop := ∃ s1 k1 c1, oneD bs s = .ok (s1, k1, c1) ∧ Runs bs k1 c1 s1 (.ok ⟨s.pos + a.enc.length, s.cells + a.sz, s.out ++ a.cells⟩)

def Reads (N : Nat) : Prop := ∀ (bs r : List UInt8) (s : Rs) (a : T), a.sz < N → a.wf → a.ints → At bs s.pos a.enc r → s.cells + a.sz ≤ 1024 → TermOk bs s a

theorem kids_run {N : Nat} (ih : Reads N) (bs : List UInt8) : ∀ (ks : List T) (r : List UInt8) (s : Rs), T.szL ks < N → T.wfL ks → (∀ c ∈ T.cellsL ks, c.i64) → At bs s.pos (T.encL ks) r → s.cells + T.szL ks ≤ 1024 →
    Runs bs ks.length false s (.ok ⟨s.pos + (T.encL ks).length, s.cells + T.szL ks, s.out ++ T.cellsL ks⟩)
  | [], r, s, _, _, _, _, _ => by
    have := Runs.zero (bs := bs) (c := false) (s := s)
    simpa [encL_nil, szL_nil, T.cellsL] using this
  | k :: ks, r, s, hN, hw, hi, h, hc => by
    rw [szL_cons] at hN hc
    rw [encL_cons] at h
    have hkw : k.wf ∧ T.wfL ks := hw
    have hcl : T.cellsL (k :: ks) = k.cells ++ T.cellsL ks := by simp [T.cellsL]
    rw [hcl] at hi
    have hpos := sz_pos k
    obtain ⟨s1, k1, c1, h1, h2⟩ := ih bs _ (push false ks.length s) k (by omega) hkw.1 (fun c hc => hi c (List.mem_append_left _ hc)) h.fst (by show s.cells + _ ≤ _; omega)
    have h3 := kids_run ih bs ks r ⟨s.pos + k.enc.length, s.cells + k.sz, s.out ++ k.cells⟩ (by omega) hkw.2 (fun c hc => hi c (List.mem_append_right _ hc)) (h.next rfl) (by show s.cells + k.sz + _ ≤ _; omega)
    have := Runs.step h1 h2 h3
    rw [encL_cons, szL_cons, hcl, List.length_append, ← List.append_assoc, ← Nat.add_assoc, ← Nat.add_assoc]
    exact this

theorem spine_run {N : Nat} (ih : Reads N) (bs : List UInt8) (x : T) : ∀ (r : List UInt8) (s : Rs), x.sz < N → x.wf → x.ints → At bs s.pos x.encT r → s.cells + x.sz ≤ 1024 + runLen x →
    Runs bs (runLen x + 1) true s (.ok ⟨s.pos + x.encT.length, s.cells + (x.sz - runLen x), s.out ++ x.cells⟩) := by
  induction x using T.byTail with
  | hl c =>
    intro r s hN hw hi h hc
    rw [encT_leaf] at h ⊢
    obtain ⟨s1, k1, c1, h1, h2⟩ := ih bs _ s (.leaf c) hN hw hi h (by simpa [runLen] using hc)
    exact Runs.step (s := s) (by simpa [push, runLen] using h1) h2 Runs.zero
  | ht c ks =>
    intro r s hN hw hi h hc
    rw [encT_tup] at h ⊢
    obtain ⟨s1, k1, c1, h1, h2⟩ := ih bs _ s (.tup c ks) hN hw hi h (by simpa [runLen] using hc)
    exact Runs.step (s := s) (by simpa [push, runLen] using h1) h2 Runs.zero
  | hc h t iht =>
    intro r s hN hw hi ha hc
    rw [encT_cons] at ha ⊢
    have hcl : (T.cons h t).cells = consC :: (h.cells ++ t.cells) := by simp [T.cells]
    rw [sz_cons] at hN hc
    have hi' : ∀ c ∈ h.cells ++ t.cells, c.i64 := fun c hc => hi c (by rw [hcl]; exact List.mem_cons_of_mem _ hc)
    have hp : push true (runLen (T.cons h t)) s = { s with out := s.out ++ [consC] } := by
      unfold push
      rw [if_pos (by simp [runLen])]
    have hr := (run_le t).1
    have hrun : runLen (T.cons h t) = runLen t + 1 := rfl
    obtain ⟨s1, k1, c1, h1, h2⟩ := ih bs _ { s with out := s.out ++ [consC] } h (by omega) hw.1 (fun c hc => hi' c (List.mem_append_left _ hc)) ha.fst (by show s.cells + _ ≤ _; omega)
    have h3 := iht r ⟨s.pos + h.enc.length, s.cells + h.sz, s.out ++ [consC] ++ h.cells⟩ (by omega) hw.2 (fun c hc => hi' c (List.mem_append_right _ hc)) (ha.next rfl) (by show s.cells + h.sz + _ ≤ _; omega)
    rw [← hp] at h1
    have := Runs.step h1 h2 (hrun ▸ h3)
    rw [sz_cons, hrun, List.length_append, hcl]
    have e1 : s.cells + (1 + h.sz + t.sz - (runLen t + 1)) = s.cells + h.sz + (t.sz - runLen t) := by omega
    have e2 : s.out ++ consC :: (h.cells ++ t.cells) = s.out ++ [consC] ++ h.cells ++ t.cells := by simp
    rw [e1, e2, ← Nat.add_assoc]
    exact this

theorem reads (N : Nat) : Reads N := by
  induction N with
  | zero => intro bs r s a h; omega
  | succ N ih =>
    intro bs r s a hN hw hi ha hc
    cases a with
    | leaf c =>
      rw [enc_leaf] at ha
      rw [sz_leaf] at hc
      have h1 := one_leaf hw.1 hw.2.1 hw.2.2 (hi c (by simp [T.cells])) ha (by omega)
      refine ⟨_, 0, false, h1, ?_⟩
      rw [enc_leaf, sz_leaf, show (T.leaf c).cells = [c] by simp [T.cells]]
      exact Runs.zero
    | tup c ks =>
      obtain ⟨hE, h5, hlen, hk⟩ := hw
      obtain ⟨_, _, _, _, _, _, k5, _⟩ := cell_zero hE
      have hn := k5 h5
      rw [enc_tup] at ha
      rw [sz_tup] at hN hc
      have hA : At bs s.pos (104 :: ([b8 c.n] ++ T.encL ks)) r := ha
      have b1 := hA.tag.2.fst.num (n := 1) rfl
      have a2 := hA.tag.2.next (n := 1) rfl
      have e1 : beN [b8 c.n] = ks.length := by
        have := b8_val c.n
        simp [beN]; omega
      have hcl : (T.tup c ks).cells = c :: T.cellsL ks := by simp [T.cells]
      have hcc : (⟨5, (ks.length : Int), ⟨#[]⟩⟩ : Ce) = c := by
        obtain ⟨_, _, kt, _, _⟩ := cell_zero hE
        obtain ⟨kind, n, text⟩ := c
        simp only at *
        obtain rfl := ba_nil (x := text) (by rcases kt with e | e | e <;> first | omega | exact e)
        rw [h5, hlen]
      have h1 : oneD bs s = .ok (⟨s.pos + 1 + 1, s.cells + 1, s.out ++ [c]⟩, ks.length, false) := by
        rw [one_tag hA]
        show (numD bs (s.pos + 1) 1).bind _ = _
        rw [b1, e1]
        show (madeD s _ _ _).bind _ = _
        rw [made_at (by omega), hcc]
        rfl
      refine ⟨_, _, _, h1, ?_⟩
      have h2 := kids_run ih bs ks r ⟨s.pos + 1 + 1, s.cells + 1, s.out ++ [c]⟩ (by omega) hk (fun d hd => hi d (by rw [hcl]; exact List.mem_cons_of_mem _ hd)) a2 (by show s.cells + 1 + _ ≤ _; omega)
      rw [enc_tup, sz_tup, hcl]
      have e3 : s.pos + ([104, b8 c.n] ++ T.encL ks).length = s.pos + 1 + 1 + (T.encL ks).length := by simp; omega
      have e4 : s.out ++ c :: T.cellsL ks = s.out ++ [c] ++ T.cellsL ks := by simp
      rw [e3, e4, ← Nat.add_assoc]
      exact h2
    | cons h t =>
      have hrl := run_le (T.cons h t)
      have hrun : 1 ≤ runLen (T.cons h t) := by simp [runLen]
      rw [enc_cons] at ha
      by_cases hch : charsOk (.cons h t) = true
      · rw [if_pos hch] at ha
        unfold charsOk at hch
        simp only [Bool.and_eq_true, decide_eq_true_eq] at hch
        obtain ⟨hx, hl, hz⟩ := chars_cells hw hch.1.1 hch.1.2
        obtain ⟨n, hn⟩ : ∃ n, runLen (T.cons h t) = n := ⟨_, rfl⟩
        rw [hn] at ha hl hz
        have hA : At bs s.pos (107 :: (be2 (n : Int) ++ charB (T.cons h t))) r := by simpa [List.append_assoc] using ha
        have b1 := hA.tag.2.fst.num (n := 2) rfl
        have a2 := (hA.tag.2.next (n := 2) rfl).take hl
        have w0 := beN_be2 (n := (n : Int)) (by omega) (by omega)
        rw [show beN (be2 (n : Int)) = n by omega] at b1
        have h1 : oneD bs s = .ok (⟨s.pos + 1 + 2 + n, s.cells + (2 * n + 1), s.out ++ charCs (charB (T.cons h t)) ++ [nilC]⟩, 0, false) := by
          rw [one_tag hA]
          show (numD bs (s.pos + 1) 2).bind _ = _
          rw [b1]
          simp only [Res.bind]
          rw [a2]
          simp only
          rw [if_neg (by omega)]
        refine ⟨_, 0, false, h1, ?_⟩
        have hc2 : charsOk (.cons h t) = true := by unfold charsOk; simp only [Bool.and_eq_true, decide_eq_true_eq]; exact hch
        rw [enc_cons, if_pos hc2, hn, hz, hx]
        have e3 : s.pos + ([107] ++ be2 (n : Int) ++ charB (T.cons h t)).length = s.pos + 1 + 2 + n := by simp [be2, hl]; omega
        rw [e3, ← List.append_assoc]
        exact Runs.zero
      · rw [if_neg hch] at ha
        obtain ⟨n, hn⟩ : ∃ n, runLen (T.cons h t) = n := ⟨_, rfl⟩
        rw [hn] at ha hrl hrun
        have hA : At bs s.pos (108 :: (be4 (n : Int) ++ (h.enc ++ t.encT))) r := by simpa [List.append_assoc] using ha
        have b1 := hA.tag.2.fst.num (n := 4) rfl
        have a2 := hA.tag.2.next (n := 4) rfl
        have w0 := beN_be4 (n := (n : Int)) (by omega) (by omega)
        rw [show beN (be4 (n : Int)) = n by omega] at b1
        have h1 : oneD bs s = .ok (⟨s.pos + 1 + 4, s.cells + n, s.out⟩, n + 1, true) := by
          rw [one_tag hA]
          show (numD bs (s.pos + 1) 4).bind _ = _
          rw [b1]
          simp only [Res.bind]
          rw [if_neg (by omega)]
        refine ⟨_, _, _, h1, ?_⟩
        have hnt : runLen t + 1 = n := hn
        have hrt := (run_le t).1
        have hcl : (T.cons h t).cells = consC :: (h.cells ++ t.cells) := by simp [T.cells]
        have hi' : ∀ c ∈ h.cells ++ t.cells, c.i64 := fun c hc => hi c (by rw [hcl]; exact List.mem_cons_of_mem _ hc)
        have hps := sz_pos h
        have hpt := sz_pos t
        rw [sz_cons] at hN hc hrl
        have hp : push true n ⟨s.pos + 1 + 4, s.cells + n, s.out⟩ = ⟨s.pos + 1 + 4, s.cells + n, s.out ++ [consC]⟩ := by
          unfold push
          rw [if_pos (by simp; omega)]
        obtain ⟨s1, k1, c1, h2, h3⟩ := ih bs _ ⟨s.pos + 1 + 4, s.cells + n, s.out ++ [consC]⟩ h (by omega) hw.1 (fun c hc => hi' c (List.mem_append_left _ hc)) a2.fst (by show s.cells + n + _ ≤ _; omega)
        have h4 := spine_run ih bs t r ⟨s.pos + 1 + 4 + h.enc.length, s.cells + n + h.sz, s.out ++ [consC] ++ h.cells⟩ (by omega) hw.2 (fun c hc => hi' c (List.mem_append_right _ hc)) (a2.next rfl) (by show s.cells + n + h.sz + _ ≤ _; omega)
        rw [← hp] at h2
        have := Runs.step h2 h3 (hnt ▸ h4)
        rw [enc_cons, if_neg hch, sz_cons, hcl]
        have e1 : s.pos + ([108] ++ be4 ((runLen (T.cons h t) : Nat) : Int) ++ (h.enc ++ t.encT)).length = s.pos + 1 + 4 + h.enc.length + t.encT.length := by simp [be4]; omega
        have e2 : s.cells + (1 + h.sz + t.sz) = s.cells + n + h.sz + (t.sz - runLen t) := by omega
        have e3 : s.out ++ consC :: (h.cells ++ t.cells) = s.out ++ [consC] ++ h.cells ++ t.cells := by simp
        rw [e1, e2, e3]
        exact this
end Go.Proofs.YtkhjdcnlpablkaaDoor
