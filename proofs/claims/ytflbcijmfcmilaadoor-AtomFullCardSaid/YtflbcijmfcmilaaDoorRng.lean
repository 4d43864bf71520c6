/- A loop over an iterator that may itself loop over an iterator, and whose function may have a bound receiver: what is promised of it, and the law for the loop. -/
import Derived.Test.YtflbcijmfcmilaaDoorIter
namespace Go.Proofs.YtflbcijmfcmilaaDoor
open Go.RowKit Go.Shelf

/-- What an iterator promises: it hands the elements of 'full' one after another; whatever invariant of the caller abides the turn of blocks that are no cells and are laid since its call. -/
def SeqO {α : Type} (F : Fence) (n : Nat) (P : Program) (g : Nat) (bd lb : Array Value) (encs : α → Array Value) (Kp : World → World → Prop) (full : List α) (B0 : Nat) (w : World) : Prop :=
  ∀ (l : Nat) (J Jx : List α → World → Prop) (W : World), Below w.heap.size w W → B0 ≤ W.heap.size → OwnFrom W.heap.size J → OwnFrom W.heap.size Jx →
    (∀ pre x W1, J pre W1 → pre ++ [x] <+: full → YieldAt F (n - 1) P l (encs x) W1 fun e W' =>
      KeepsFrom B0 W1 W' ∧ ((e = .returned (.bool true) ∧ J (pre ++ [x]) W' ∧ Kp W1 W') ∨ (e = .returned (.bool false) ∧ Jx (pre ++ [x]) W'))) →
    J [] W →
    CallsIn F n P g (bd ++ #[.func (.yield l) #[] #[]] ++ lb) W fun e W' => (∃ v, e = .returned v) ∧ (J full W' ∨ ∃ pre, pre <+: full ∧ Jx pre W')

section
variable {F : Fence} {n : Nat} {P : Program}

/-- A block that lay before stays, where only later ones turn. -/
theorem stays_old {B : Nat} {A C : World} {row : Option Nat} {k : Nat} {o : Obj} (hg : A.grownBy C row) (hr : ∀ r, row = some r → B ≤ r) (hk : A.heap[k]? = some o) (hB : k < B) : C.heap[k]? = some o := by
  rw [hg.block k (Array.getElem?_eq_some_iff.1 hk).1 (fun e => by have := hr k e.symm; omega)]
  exact hk

theorem range_O {α : Type} {g : Operand} {ps : Array Tmp} {assign body : Code} {Q : Exit → Act → World → Prop} {a : Act} {w : World}
    (hro : F.round = none) (h1 : 1 ≤ n) {gf : Nat} {bd lb : Array Value} (hg : a.eval g = .func (.func gf) bd lb) (hFg : F.fn gf) (eg : ∀ args w, (callFunc gf args).run P w = .ok (.enter gf args) w)
    {encs : α → Array Value} {Kp : World → World → Prop} {full : List α} {w0 : World} (hseq : SeqO F (n - 1) P gf bd lb encs Kp full (w.heap.size + 2) w0)
    (hKt : ∀ {A B C : World}, Kp A B → Kp B C → Kp A C) (hKb : ∀ (W : World) (l : Nat) (o o' : Obj), w.heap.size ≤ l → W.heap[l]? = some o → o.isCells = false → Kp W (W.putObj l o'))
    (hb0 : Below w0.heap.size w0 w) (hps : ∀ x, (encs x).size = ps.size)
    (I : List α → World → Prop) (Ix : Code → List α → World → Prop) (hI : OwnFrom w.heap.size I) (hIx : ∀ c, OwnFrom w.heap.size (Ix c)) (h0 : I [] w) (a₁ : α → Act)
    (hassign : ∀ (l : Nat) (x : α) (W : World) (K : Act → World → Prop), K (a₁ x) W →
      assign.wpIn (F.inRound l) (n - 1 - 1) P (Exit.then K (fun _ _ _ => False)) { tmps := (ps.zip (encs x)).foldl (fun t (p, v) => t.setIfInBounds p v) a.tmps, defers := [] } W)
    (hbody : ∀ (l : Nat) (pre : List α) (x : α) (W : World), I pre W → pre ++ [x] <+: full → body.wpIn (F.inRound l) (n - 1 - 1) P (ownPostG w.heap.size Kp I Ix (pre ++ [x]) W) (a₁ x) W)
    (hdone : ∀ (D : Nat) (W : World), w.heap.size ≤ D → I full W → W.heap[D]? = some (.deferred (some [])) → Q .normal { a with defers := { target := .collected D, args := #[] } :: a.defers } W)
    (hstop : ∀ (D : Nat) (c : Code) (pre : List α) (W : World), w.heap.size ≤ D → pre <+: full → Ix c pre W → W.heap[D]? = some (.deferred (some [])) → c.wpIn F n P Q { a with defers := { target := .collected D, args := #[] } :: a.defers } W) :
    (Code.rangeFunc g ps assign body).wpIn F n P Q a w := by
  obtain ⟨Z, hZ⟩ : ∃ Z, w.heap.size = Z := ⟨_, rfl⟩
  rw [hZ] at hKb hI hIx hbody hdone hstop hseq
  refine wpIn_rangeFunc fun fn hfn => ?_
  rw [hro]
  -- the loop's record, whatever its state
  obtain ⟨rc, hrc⟩ : ∃ rc : LoopState → Option Code → Loop, ∀ st pe, rc st pe = { state := st, pending := pe, fn, tmps := a.tmps, params := ps, assign, body, defers := Z } := ⟨_, fun _ _ => rfl⟩
  obtain ⟨V, hV⟩ : ∃ V, (w.alloc (.deferred (some []))).alloc (.loop (rc .ready none)) = V := ⟨_, rfl⟩
  have vs : V.heap.size = Z + 2 := by subst hV hZ; simp
  have vL : V.heap[Z + 1]? = some (.loop (rc .ready none)) := by
    have := World.alloc_heap_new (w.alloc (.deferred (some []))) (.loop (rc .ready none))
    rwa [World.size_alloc, hV, hZ] at this
  have vD : V.heap[Z]? = some (.deferred (some [])) := by
    subst hV
    rw [Below.heap_alloc _ _ _ (by rw [World.size_alloc]; omega), ← hZ]
    exact World.alloc_heap_new w _
  have vI : I [] V := by subst hV; exact hI.alloc _ (hI.alloc _ h0)
  have vB : Below w0.heap.size w0 V := by
    subst hV
    exact hb0.trans ((((Below.refl _ w).alloc (Nat.le_refl _) _).alloc (by simp) _).mono hb0.size)
  refine ⟨Z + 1, [{ target := .collected Z, args := #[] }], V, { target := .fn (.func gf) lb, args := bd ++ #[.func (.yield (Z + 1)) #[] #[]] }, V, gf, bd ++ #[.func (.yield (Z + 1)) #[] #[]] ++ lb, V, ?_, ?_, ?_, ?_, fun _ => h1, ?_⟩
  · have := run_enterLoop_outer (P := P) (w := w) fn a.tmps ps assign body
    rw [this, ← hV, hrc, hZ]
  · simp only [resolve, hg]
    simp [go_sem]
  · intro f' hf'
    simp [Target.leads] at hf'
    exact hf' ▸ hFg
  · simp [invoke, go_sem, eg]
  -- the caller's invariant: the loop's own, the record, the block for deferred calls
  obtain ⟨J, hJ⟩ : ∃ J : List α → World → Prop, ∀ pre W, J pre W ↔ I pre W ∧ W.heap[Z + 1]? = some (.loop (rc .ready none)) ∧ W.heap[Z]? = some (.deferred (some [])) := ⟨_, fun _ _ => Iff.rfl⟩
  obtain ⟨Jx, hJx⟩ : ∃ Jx : List α → World → Prop, ∀ pre W, Jx pre W ↔ ∃ c, Ix c pre W ∧ W.heap[Z + 1]? = some (.loop (rc .done (some c))) ∧ W.heap[Z]? = some (.deferred (some [])) := ⟨_, fun _ _ => Iff.rfl⟩
  have oJ : OwnFrom V.heap.size J := fun s A C row hs hgr hr => by
    rw [vs] at hr
    obtain ⟨i1, i2, i3⟩ := (hJ s A).1 hs
    have hr' := fun r e => (hr r e).1
    exact (hJ s C).2 ⟨hI s A C row i1 hgr (fun r e => ⟨by have := (hr r e).1; omega, (hr r e).2⟩), stays_old hgr hr' i2 (by omega), stays_old hgr hr' i3 (by omega)⟩
  have oJx : OwnFrom V.heap.size Jx := fun s A C row hs hgr hr => by
    rw [vs] at hr
    obtain ⟨c, i1, i2, i3⟩ := (hJx s A).1 hs
    have hr' := fun r e => (hr r e).1
    exact (hJx s C).2 ⟨c, hIx c s A C row i1 hgr (fun r e => ⟨by have := (hr r e).1; omega, (hr r e).2⟩), stays_old hgr hr' i2 (by omega), stays_old hgr hr' i3 (by omega)⟩
  refine (hseq (Z + 1) J Jx V vB (Nat.le_of_eq vs.symm) oJ oJx ?_ ((hJ [] V).2 ⟨vI, vL, vD⟩)).mono ?_
  · -- one round
    intro pre x W hj hpre
    obtain ⟨i1, i2, i3⟩ := (hJ pre W).1 hj
    have zlt : Z + 1 < W.heap.size := (Array.getElem?_eq_some_iff.1 i2).1
    have hy := run_yield (P := P) (args := encs x) i2 (by rw [hrc]; exact hps x)
    rw [hrc] at hy
    refine ⟨fn, _, assign, body, hy, roundIn_of_wpIn hfn (hassign _ x W _ ⟨_, run_beginRound i2 (by rw [hrc]), ?_⟩)⟩
    obtain ⟨Wb, hWb⟩ : ∃ Wb, W.putObj (Z + 1) (.loop { rc .ready none with state := .busy }) = Wb := ⟨_, rfl⟩
    have b2 : Wb.heap[Z + 1]? = some (.loop { rc .ready none with state := .busy }) := by subst hWb; exact World.putObj_heap_same zlt
    have b3 : Wb.heap[Z]? = some (.deferred (some [])) := by subst hWb; exact (World.putObj_heap_other (by omega)).trans i3
    have b1 : I pre Wb := by subst hWb; exact hI.putObj _ i1 (by omega) i2 rfl
    have bk : Kp W Wb := by subst hWb; exact hKb _ _ _ _ (by omega) i2 rfl
    rw [hWb]
    have kept : ∀ (jump : Option Code) (W3 : World), KeepsFrom Z Wb W3 → KeepsFrom (Z + 2) W (W3.putObj (Z + 1) (.loop (rc (if jump.isNone then .ready else .done) jump))) := fun jump W3 hk =>
      ⟨by subst hWb; simpa using hk.size, fun k o hk1 hk2 hk3 => by
        have k1 : Wb.heap[k]? = some o := by subst hWb; exact (World.putObj_heap_other (by omega)).trans hk2
        exact (World.putObj_heap_other (by omega)).trans (hk.same k o (by omega) k1 hk3)⟩
    -- the round's end, with or without a jump
    have last : ∀ (jump : Option Code) (W3 : World), KeepsFrom Z Wb W3 → ∃ W4, W4 = W3.putObj (Z + 1) (.loop (rc (if jump.isNone then .ready else .done) jump)) ∧ (Instr.endRound (Z + 1) jump).run P W3 = .ok (.bool jump.isNone) W4 ∧
        W3.heap[Z + 1]? = some (.loop { rc .ready none with state := .busy }) ∧ W4.heap[Z + 1]? = some (.loop (rc (if jump.isNone then .ready else .done) jump)) ∧ W4.heap[Z]? = some (.deferred (some [])) := fun jump W3 hk => by
      have h2 := hk.same _ _ (by omega) b2 rfl
      have h3 := hk.same _ _ (Nat.le_refl _) b3 rfl
      have he := run_endRound (P := P) jump h2
      refine ⟨_, rfl, ?_, h2, World.putObj_heap_same (Array.getElem?_eq_some_iff.1 h2).1, (World.putObj_heap_other (by omega)).trans h3⟩
      rw [he]
      simp only [hrc]
    have leave : ∀ (c : Code) (W3 : World), KeepsFrom Z Wb W3 → Ix c (pre ++ [x]) W3 → ∃ W4, (Instr.endRound (Z + 1) (some c)).run P W3 = .ok (.bool false) W4 ∧ KeepsFrom (Z + 2) W W4 ∧ Jx (pre ++ [x]) W4 := fun c W3 hk hx => by
      obtain ⟨W4, e4, r, l3, l4, d4⟩ := last (some c) W3 hk
      refine ⟨W4, r, by rw [e4]; exact kept (some c) W3 hk, (hJx _ W4).2 ⟨c, ?_, l4, d4⟩⟩
      rw [e4]
      exact (hIx c).putObj _ hx (by omega) l3 rfl
    refine wpIn_mono (hbody _ pre x Wb b1 hpre) fun e a3 W3 hp => ?_
    cases e with
    | normal =>
      obtain ⟨hk, hkp, hi⟩ := hp
      obtain ⟨W4, e4, r, l3, l4, d4⟩ := last none W3 hk
      refine ⟨_, _, r, by rw [e4]; exact kept none W3 hk, .inl ⟨rfl, (hJ _ W4).2 ⟨?_, l4, d4⟩, ?_⟩⟩
      · rw [e4]; exact hI.putObj _ hi (by omega) l3 rfl
      · rw [e4]; exact hKt (hKt bk hkp) (hKb _ _ _ _ (by omega) l3 rfl)
    | ret => obtain ⟨W4, r, hk4, hx⟩ := leave .ret W3 hp.1 hp.2; exact ⟨_, _, r, hk4, .inr ⟨rfl, hx⟩⟩
    | exit id => obtain ⟨W4, r, hk4, hx⟩ := leave (.exit id) W3 hp.1 hp.2; exact ⟨_, _, r, hk4, .inr ⟨rfl, hx⟩⟩
    | goto t => obtain ⟨W4, r, hk4, hx⟩ := leave (.goto t) W3 hp.1 hp.2; exact ⟨_, _, r, hk4, .inr ⟨rfl, hx⟩⟩
    | panic ch => exact hp.elim
    | outgrown => exact hp.elim
  · -- the iterator has returned
    rintro e W2 ⟨⟨v, rfl⟩, hj | ⟨pre, hp, hj⟩⟩
    · obtain ⟨i1, i2, i3⟩ := (hJ _ W2).1 hj
      have he := run_endLoop (P := P) i2 (by rw [hrc]; simp)
      rw [hrc] at he
      exact ⟨none, _, he, hdone Z _ (Nat.le_refl _) (hI.putObj _ i1 (by omega) i2 rfl) ((World.putObj_heap_other (by omega)).trans i3)⟩
    · obtain ⟨c, i1, i2, i3⟩ := (hJx _ W2).1 hj
      have he := run_endLoop (P := P) i2 (by rw [hrc]; simp)
      rw [hrc] at he
      exact ⟨some c, _, he, hstop Z c pre _ (Nat.le_refl _) hp ((hIx c).putObj _ i1 (by omega) i2 rfl) ((World.putObj_heap_other (by omega)).trans i3)⟩
end
end Go.Proofs.YtflbcijmfcmilaaDoor
