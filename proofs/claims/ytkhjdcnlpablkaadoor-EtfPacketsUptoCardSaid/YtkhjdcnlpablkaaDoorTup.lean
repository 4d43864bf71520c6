/- The program's reader: how many terms follow. Printed by genTup.py. -/
import Derived.Test.YtkhjdcnlpablkaaDoorChars
namespace Go.Proofs.YtkhjdcnlpablkaaDoor
open Go.RowKit
open Go.Lib (byteCells)

section
variable {B rb : Nat} {w w5 : World} {bv sv sv' : Value} {bs : List UInt8} {s s' : Pr} {o : Obj} {e p : Nat}
/-- A cell of one's own, made ahead of a step, is written behind it. -/
theorem Rw.slot (hp : Rp B w rb bv sv bs s) (h : Rw B (w.alloc o) rb bv sv bs w5 sv' s') {w6 : World} (hf : Fr (fun k => k = w.heap.size) w5 w6) : Rw B w rb bv sv bs w6 sv' s' := by
  have h0 := h.behind (bel_box w o)
  have hne : ∀ k, sv'.ownBlock = some k → k ≠ w.heap.size := fun k hk => by
    rcases h.nw k hk with e | e
    · have := hp.sl.lt k e; omega
    · simp at e; omega
  have hlt := hp.lt
  exact ⟨⟨hf.at h.rp.blk (fun e => by omega), hf.sl h.rp.sl fun k hk e => hne k hk e, h.rp.inp.step (hf.below h.rp.Ble fun k hk => by subst hk; exact hp.Ble), h.rp.hB, h.rp.own, h.rp.le⟩,
    h0.fr.trans' hf (fun i hi => .inr (by subst hi; exact Nat.le_refl _)), h0.nw⟩
theorem Er.slot (hp : Rp B w rb bv sv bs s) (h : Er B (w.alloc o) rb bv sv bs e p w5) {w6 : World} (hf : Fr (fun k => k = w.heap.size) w5 w6) : Er B w rb bv sv bs e p w6 := by
  obtain ⟨sv1, s1, h, h1, h2, h3⟩ := h
  exact ⟨sv1, s1, h.slot hp hf, h1, h2, h3⟩
theorem Got.slot {x : Rs} (hp : Rp B w rb bv sv bs s) (h : Got B (w.alloc o) rb bv sv bs w5 x) {w6 : World} (hf : Fr (fun k => k = w.heap.size) w5 w6) : Got B w rb bv sv bs w6 x := by
  obtain ⟨a, b, c, h⟩ := h
  exact ⟨a, b, c, h.slot hp hf⟩
theorem Got.mine {x : Rs} (hp : Rp B w rb bv sv bs s) (h : Got B (w.alloc o) rb bv sv bs w5 x) : w5.heap[w.heap.size]? = some o := by
  obtain ⟨_, _, _, h⟩ := h
  have hlt := hp.lt
  exact h.fr.at (heap_alloc_new w o) (fun e => by
    rcases e with e | e
    · omega
    · exact absurd (hp.sl.lt _ e) (Nat.lt_irrefl _))
theorem fr_two (w : World) (b : Nat) (u v : Value) : Fr (fun k => k = b) w ((w.setCell ⟨b, 0, none⟩ u).setCell ⟨b, 1, none⟩ v) :=
  ((Fr.refl (fun k => k = b) w).setCell (p := ⟨b, 0, none⟩) (.inl rfl) u).setCell (p := ⟨b, 1, none⟩) (.inl rfl) v
theorem Rw.mine (hp : Rp B w rb bv sv bs s) (h : Rw B (w.alloc o) rb bv sv bs w5 sv' s') : w5.heap[w.heap.size]? = some o := by
  have hlt := hp.lt
  exact h.fr.at (heap_alloc_new w o) (fun e => by
    rcases e with e | e
    · omega
    · exact absurd (hp.sl.lt _ e) (Nat.lt_irrefl _))
theorem Er.mine (hp : Rp B w rb bv sv bs s) (h : Er B (w.alloc o) rb bv sv bs e p w5) : w5.heap[w.heap.size]? = some o := by
  obtain ⟨_, _, h, _⟩ := h
  exact h.mine hp
end

theorem results_kids {fn : Func} {p : Nat} (h : fn.results = #[.cell p 56]) (tmps : Array Value) (w : World) (b : Nat) (n : Int) (x : Bool) (hp : tmps.getD p undef = .pointer (some ⟨b, 0, none⟩))
    (h0 : w.cell? ⟨b, 0, none⟩ = some (.int .i64 n)) (h1 : w.cell? ⟨b, 1, none⟩ = some (.bool x)) :
    (results fn tmps).run Tryd.prog w = .ok (.agg #[.int .i64 n, .bool x]) w := by
  have hp' : tmps[p]?.getD undef = .pointer (some ⟨b, 0, none⟩) := by simpa using hp
  simp [results, h, hp', asAddr, go_sem, h0, h1]

def kidsO : Obj := .cells #[.int .i64 0, .bool false] 56
theorem kids_two {w : World} {b : Nat} (h : w.heap[b]? = some kidsO) (n : Int) (x : Bool) : ((w.setCell ⟨b, 0, none⟩ (.int .i64 n)).setCell ⟨b, 1, none⟩ (.bool x)).cell? ⟨b, 0, none⟩ = some (.int .i64 n) ∧
    ((w.setCell ⟨b, 0, none⟩ (.int .i64 n)).setCell ⟨b, 1, none⟩ (.bool x)).cell? ⟨b, 1, none⟩ = some (.bool x) := by
  have h2 := blk_set (blk_set h 0 (.int .i64 n)) 1 (.bool x)
  exact ⟨blk_cell h2 0, blk_cell h2 1⟩
theorem kids_ret {B rb : Nat} {w w9 : World} {bv sv : Value} {bs : List UInt8} {s : Pr} {fn : Func} {q : Nat} {a : Act} {R : Ending → World → Prop} (h : fn.results = #[.cell q 56]) (n : Int) (x : Bool) (hp : a.tmps.getD q undef = .pointer (some ⟨w.heap.size, 0, none⟩)) (hd : a.defers = [])
    (hm : w9.heap[w.heap.size]? = some kidsO) (_hq : Rp B w rb bv sv bs s) (hR : R (.returned (.agg #[.int .i64 n, .bool x])) ((w9.setCell ⟨w.heap.size, 0, none⟩ (.int .i64 n)).setCell ⟨w.heap.size, 1, none⟩ (.bool x))) :
    bodyPost Tryd.prog fn R .ret a ((w9.setCell ⟨w.heap.size, 0, none⟩ (.int .i64 n)).setCell ⟨w.heap.size, 1, none⟩ (.bool x)) :=
  bodyPost_ret (results_kids h _ _ _ n x hp (kids_two hm n x).1 (kids_two hm n x).2) hd hR
theorem kids_cells {w : World} {b : Nat} (h : w.heap[b]? = some kidsO) : w.cell? ⟨b, 0, none⟩ = some (.int .i64 0) ∧ w.cell? ⟨b, 1, none⟩ = some (.bool false) ∧ w.frozen? ⟨b, 0, none⟩ = false ∧ w.frozen? ⟨b, 1, none⟩ = false :=
  ⟨blk_cell h 0, blk_cell h 1, blk_free h 0, blk_free h 1⟩

set_option maxHeartbeats 1600000 in
set_option maxRecDepth 100000 in
theorem tuple_er {B rb : Nat} {w w1 : World} {bv sv : Value} {bs : List UInt8} {e p : Nat} (n : Nat) (h : Er B w rb bv sv bs e p w1) :
    Calls Tryd.prog 49 #[.pointer (some ⟨rb, 0, none⟩), .int .i64 n] w1 fun r w2 => r = .returned (.agg #[.int .i64 n, .bool false]) ∧ Er B w rb bv sv bs e p w2 := by
  obtain ⟨sv1, s1, h1, hw, hp, he⟩ := h
  have hE : Er B (w1.alloc kidsO) rb bv sv1 bs e p (w1.alloc kidsO) := ⟨sv1, s1, Rw.refl (h1.rp.below (bel_box _ _)), hw, hp, he⟩
  obtain ⟨c5, q1, q2⟩ := hE.why
  have d5 := h1.rp.fld.2.2.2
  rw [hw] at d5
  have HR := Lib.hid h1.rp
  have H1 := Lib.hid h1
  have H9 := Lib.hid fun v => made_er 5 v ⟨#[]⟩ 1 hE
  have hlt := h1.rp.lt
  have hnew := heap_alloc_new w1 kidsO
  unfold kidsO at c5 hnew
  have b0 := blk_cell hnew 0
  have b1 := blk_cell hnew 1
  clear h1 hw hp he hE hnew
  clear b0 b1
  go_enter Tryd.func49, Tryd.ntmps49
  go_wp2_with fail
  refine (H9.out _).mono ?_
  rintro r w9 ⟨rfl, hE⟩
  have hm := hE.mine (sv := sv1) (s := s1) HR.out
  obtain ⟨b0, b1, f0, f1⟩ := kids_cells hm
  have HM := Lib.hid hm
  have HE := Lib.hid hE
  clear hm hE c5 d5
  go_wp2_with fail
  exact kids_ret rfl _ _ rfl rfl HM.out HR.out ⟨rfl, Er.behind H1.out (HE.out.slot HR.out (fr_two _ _ _ _))⟩

set_option maxHeartbeats 3200000 in
set_option maxRecDepth 100000 in
theorem tuple_any (B rb : Nat) (bv sv : Value) (bs : List UInt8) (s : Pr) (s0 : Rs) (n : Nat) (w : World) (h : Rp B w rb bv sv bs s) (hs : s.why = 0) (hcl : s.cells ≤ 1024) (hol : s.out.length ≤ 10000000)
    (h0 : s0.cells = s.cells) (h1 : s0.out = s.out) :
    Calls Tryd.prog 49 #[.pointer (some ⟨rb, 0, none⟩), .int .i64 n] w fun r w' => ResP (if 255 < n then .bad 1 s.tag else madeD s0 s.pos s.tag ⟨5, n, ⟨#[]⟩⟩)
      (fun x => r = .returned (.agg #[.int .i64 n, .bool false]) ∧ Got B w rb bv sv bs w' x.1 ∧ x.2 = (0, false))
      (fun e p => r = .returned (.agg #[.int .i64 n, .bool false]) ∧ Er B w rb bv sv bs e p w') := by
  obtain ⟨X, hX⟩ : ∃ X, (if 255 < n then .bad 1 s.tag else madeD s0 s.pos s.tag ⟨5, n, ⟨#[]⟩⟩) = X := ⟨_, rfl⟩
  rw [hX]
  have HX := Lib.hid hX.symm
  clear hX
  have hA := h.below (bel_box w kidsO)
  have H9 := made_res B rb bv sv bs s 5 n ⟨#[]⟩ _ hA hs hcl hol s0 h0 h1
  have H5 := fail_any B rb bv sv bs s 1 s.tag _ hA
  obtain ⟨_, c2, _, c5⟩ := hA.fld
  obtain ⟨_, d2, _, d5⟩ := h.fld
  rw [hs] at c5 d5
  have HS := Lib.hid hs
  have H := Lib.hid h
  have hlt := h.lt
  unfold kidsO at c2 c5 H9 H5
  clear h hs hA h0 h1 hcl hol
  by_cases hn : 255 < n
  · have t1 : decide (255 < (n : Int)) = true := by simp; omega
    have t2 : decide (255 < n) = true := by simp; omega
    have HN := Lib.hid hn
    have HH5 := Lib.hid H5
    clear hn H9 H5
    go_enter Tryd.func49, Tryd.ntmps49
    go_wp2_with fail
    refine (HH5.out).mono ?_
    rintro r w5 ⟨rfl, h5⟩
    have hE0 : Er B (w.alloc kidsO) rb bv sv bs 1 s.tag w5 := .fail h5 HS.out (by omega)
    have H9 := Lib.hid fun v => made_er 5 v ⟨#[]⟩ 1 hE0
    clear h5 hE0 c2 c5 d2 d5
    go_wp2_with fail
    refine (H9.out _).mono ?_
    rintro r w9 ⟨rfl, hE⟩
    have hm := hE.mine H.out
    obtain ⟨b0, b1, f0, f1⟩ := kids_cells hm
    have HM := Lib.hid hm
    have HE := Lib.hid hE
    clear hm hE
    go_wp2_with fail
    exact kids_ret rfl _ _ rfl rfl HM.out H.out (ResP.badI (HX.out.trans (if_pos HN.out)) ⟨rfl, HE.out.slot H.out (fr_two _ _ _ _)⟩)
  · have t1 : decide (255 < (n : Int)) = false := by simp; omega
    have t2 : decide (255 < n) = false := by simp; omega
    have HN := Lib.hid hn
    have HH9 := Lib.hid H9
    clear hn H9 H5
    go_enter Tryd.func49, Tryd.ntmps49
    go_wp2_with fail
    refine (HH9.out).mono ?_
    intro r w9 h9
    obtain ⟨rfl, h9⟩ := ResP.both h9
    cases hx : madeD s0 s.pos s.tag ⟨5, n, ⟨#[]⟩⟩ with
    | ok x =>
      have hg := (h9.okE hx).2
      have hm := hg.1.mine (o := kidsO) H.out
      obtain ⟨b0, b1, f0, f1⟩ := kids_cells hm
      have HM := Lib.hid hm
      have HG := Lib.hid hg
      have HXX := Lib.hid hx
      clear hm hg h9 hx c2 c5 d2 d5
      go_wp2_with fail
      exact kids_ret rfl _ _ rfl rfl HM.out H.out (ResP.okI (HX.out.trans ((if_neg HN.out).trans HXX.out)) ⟨rfl, HG.out.1.slot (o := kidsO) H.out (fr_two _ _ _ _), HG.out.2⟩)
    | bad e p =>
      have hE := (h9.badE hx).2
      have hm := Er.mine (o := kidsO) H.out hE
      obtain ⟨b0, b1, f0, f1⟩ := kids_cells hm
      have HM := Lib.hid hm
      have HE := Lib.hid hE
      have HXX := Lib.hid hx
      clear hm hE h9 hx c2 c5 d2 d5
      go_wp2_with fail
      exact kids_ret rfl _ _ rfl rfl HM.out H.out (ResP.badI (HX.out.trans ((if_neg HN.out).trans HXX.out)) ⟨rfl, Er.slot (o := kidsO) H.out HE.out (fr_two _ _ _ _)⟩)
end Go.Proofs.YtkhjdcnlpablkaaDoor
