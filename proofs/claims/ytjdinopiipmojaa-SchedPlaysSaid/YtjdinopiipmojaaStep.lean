/- One call, of both: the queue and the document's. -/
import Derived.Test.YtjdinopiipmojaaRef3
import Derived.Deep.RegionWith
namespace Go.Proofs.Ytjdinopiipmojaa
open Go.RowKit

/-- The two queues, which lie apart, within F. -/
structure Pair (B : Nat) (w0 w : World) (p bm q : Nat) (vs : Int → Value) (cs : Int) (L : Int → List Int) (v : Value) (E : List (Int × Int)) (c : Int) (F : Nat → Prop) : Prop where
  b : QIn B w0 w p bm vs cs L
  r : Rq w q v E c
  f1 : ∀ k, bf p bm vs k → F k
  f2 : ∀ k, rf q v k → F k
  dis : ∀ k, bf p bm vs k → ¬ rf q v k
  fb : ∀ k, F k → B ≤ k ∧ k < w.heap.size

theorem Pair.stepB {B : Nat} {w0 w w' : World} {p bm q : Nat} {vs : Int → Value} {cs : Int} {L : Int → List Int} {v : Value} {E : List (Int × Int)} {c : Int} {F : Nat → Prop} {cs' : Int} {L' : Int → List Int}
    (h : Pair B w0 w p bm q vs cs L v E c F) (hp : QPost p bm vs cs' L' w w') : ∃ vs' F', Pair B w0 w' p bm q vs' cs' L' v E c F' ∧ Fr F w w' ∧ ∀ k, F' k → F k ∨ w.heap.size ≤ k := by
  obtain ⟨vs', hb, hf, hg⟩ := id hp
  obtain ⟨vs2, hq, hs, _⟩ := h.b.step3 hp
  have hsz := h.b.size
  refine ⟨vs', fun k => F k ∨ bf p bm vs' k, ⟨⟨hb, fun k hk => ?_, hq.below, hq.size⟩, h.r.keep hf (fun k hk hk' => h.dis k hk' hk), fun k hk => .inr hk, fun k hk => .inl (h.f2 k hk), fun k hk hk' => ?_, fun k hk => ?_⟩, hf.mono h.f1, fun k hk => ?_⟩
  · rcases hg k hk with x | x
    · exact h.b.lies k x
    · omega
  · rcases hg k hk with x | x
    · exact h.dis k x hk'
    · have := h.r.lt k hk'; omega
  · rcases hk with hk | hk
    · have := h.fb k hk; omega
    · have h1 := hb.lt k hk
      rcases hg k hk with x | x
      · have := h.b.lies k x; omega
      · omega
  · rcases hk with hk | hk
    · exact .inl hk
    · exact (hg k hk).imp (h.f1 k) id

theorem Pair.stepR {B : Nat} {w0 w w' : World} {p bm q : Nat} {vs : Int → Value} {cs : Int} {L : Int → List Int} {v : Value} {E : List (Int × Int)} {c : Int} {F : Nat → Prop} {E' : List (Int × Int)} {c' : Int}
    (h : Pair B w0 w p bm q vs cs L v E c F) (hp : RPost q v E' c' w w') : ∃ v' F', Pair B w0 w' p bm q vs cs L v' E' c' F' ∧ Fr F w w' ∧ ∀ k, F' k → F k ∨ w.heap.size ≤ k := by
  obtain ⟨v', hb, hf, hg⟩ := hp
  have hsz := h.b.size
  have hs := hf.size
  refine ⟨v', fun k => F k ∨ rf q v' k, ⟨h.b.keep hf (fun k hk hk' => h.dis k hk hk') (fun k hk => (h.fb k (h.f2 k hk)).1), hb, fun k hk => .inl (h.f1 k hk), fun k hk => .inr hk, fun k hk hk' => ?_, fun k hk => ?_⟩, hf.mono h.f2, fun k hk => ?_⟩
  · rcases hg k hk' with x | x
    · exact h.dis k hk x
    · have := h.b.q.lt k hk; omega
  · rcases hk with hk | hk
    · have := h.fb k hk; omega
    · have h1 := hb.lt k hk
      rcases hg k hk with x | x
      · have := h.fb k (h.f2 k x); omega
      · omega
  · rcases hk with hk | hk
    · exact .inl hk
    · exact (hg k hk).imp (h.f2 k) id

theorem Pair.keep {B : Nat} {w0 w w' : World} {p bm q : Nat} {vs : Int → Value} {cs : Int} {L : Int → List Int} {v : Value} {E : List (Int × Int)} {c : Int} {F G : Nat → Prop}
    (h : Pair B w0 w p bm q vs cs L v E c F) (hf : Fr G w w') (hF : ∀ k, F k → ¬ G k) (hB : ∀ k, G k → B ≤ k) : Pair B w0 w' p bm q vs cs L v E c F :=
  ⟨h.b.keep hf (fun k hk => hF k (h.f1 k hk)) hB, h.r.keep hf (fun k hk => hF k (h.f2 k hk)), h.f1, h.f2, h.dis, fun k hk => ⟨(h.fb k hk).1, Nat.lt_of_lt_of_le (h.fb k hk).2 hf.size⟩⟩

theorem Pair.bel {B : Nat} {w0 w w' : World} {p bm q : Nat} {vs : Int → Value} {cs : Int} {L : Int → List Int} {v : Value} {E : List (Int × Int)} {c : Int} {F : Nat → Prop}
    (h : Pair B w0 w p bm q vs cs L v E c F) (hb : Below w.heap.size w w') : Pair B w0 w' p bm q vs cs L v E c F := h.keep (bel_fr0 hb) (fun _ _ h => h) (fun _ h => h.elim)

/-- The two queues, alike. -/
structure Two (B : Nat) (w0 w : World) (p bm q : Nat) (vs : Int → Value) (v : Value) (E : List (Int × Int)) (c : Int) (F : Nat → Prop) : Prop where
  pr : Pair B w0 w p bm q vs (min c 8) (lst E) v E c F
  good : Good E
  len : E.length ≤ 64
  c0 : 0 ≤ c

def Moved (F F' : Nat → Prop) (w w' : World) : Prop := Fr F w w' ∧ ∀ k, F' k → F k ∨ w.heap.size ≤ k

theorem Moved.trans {F F1 F2 : Nat → Prop} {w w1 w2 : World} (h : Moved F F1 w w1) (k : Moved F1 F2 w1 w2) : Moved F F2 w w2 := by
  have := h.1.size
  refine ⟨h.1.trans' k.1 h.2, fun i hi => ?_⟩
  rcases k.2 i hi with x | x
  · exact h.2 i x
  · exact .inr (by omega)

def StepPost (B : Nat) (w0 w : World) (p bm q : Nat) (c : Int) (F : Nat → Prop) (e : Ending) (w' : World) : Prop :=
  e = .returned (.bool true) ∧ ∃ vs' v' E' c' F', Two B w0 w' p bm q vs' v' E' c' F' ∧ Moved F F' w w' ∧ c' ≤ c + 1

def opv (k pid pr : Int) : Value := .agg #[.int .i64 k, .int .i64 pid, .int .i64 pr]

theorem place_mem {E : List (Int × Int)} {pid : Int} : 0 ≤ place (fun e => e.1 == pid) E ↔ ∃ e ∈ E, e.1 = pid := by
  rcases place_cases (fun e => e.1 == pid) E with ⟨h, hn⟩ | ⟨i, e, h, he, hf, _⟩
  · rw [h]
    constructor
    · omega
    · rintro ⟨e, he, hp⟩
      have := hn e he
      simp at this
      exact absurd hp this
  · rw [h]
    constructor
    · intro _; exact ⟨e, List.mem_of_getElem? he, by simpa using hf⟩
    · omega

theorem add_same {E : List (Int × Int)} (h : Good E) (pid pr : Int) : (addSays (lst E) pid pr).1 = (raddSays E pid pr).1 ∧ (addSays (lst E) pid pr).2 = lst (raddSays E pid pr).2 := by
  have hs := sum_len E h.pr
  unfold addSays raddSays
  by_cases h1 : pid < 1 ∨ 1099511627776 < pid ∨ pr < 1 ∨ 4 < pr
  · rw [if_pos h1, if_pos h1]; exact ⟨rfl, rfl⟩
  rw [if_neg h1, if_neg h1]
  by_cases h2 : ∃ e ∈ E, e.1 = pid
  · rw [if_pos (fin4.2 ((h.mem_iff pid).2 h2)), if_pos (place_mem.2 h2)]; exact ⟨rfl, rfl⟩
  rw [if_neg (fun x => h2 ((h.mem_iff pid).1 (fin4.1 x))), if_neg (fun x => h2 (place_mem.1 x)), hs]
  by_cases h3 : 64 ≤ E.length
  · rw [if_pos h3, if_pos h3]; exact ⟨rfl, rfl⟩
  · rw [if_neg h3, if_neg h3]; exact ⟨rfl, lst_add E pid pr⟩

theorem add_good {E : List (Int × Int)} (h : Good E) (hl : E.length ≤ 64) (pid pr : Int) : Good (raddSays E pid pr).2 ∧ (raddSays E pid pr).2.length ≤ 64 := by
  unfold raddSays
  by_cases h1 : pid < 1 ∨ 1099511627776 < pid ∨ pr < 1 ∨ 4 < pr
  · rw [if_pos h1]; exact ⟨h, hl⟩
  rw [if_neg h1]
  by_cases h2 : ∃ e ∈ E, e.1 = pid
  · rw [if_pos (place_mem.2 h2)]; exact ⟨h, hl⟩
  rw [if_neg (fun x => h2 (place_mem.1 x))]
  by_cases h3 : 64 ≤ E.length
  · rw [if_pos h3]; exact ⟨h, hl⟩
  · rw [if_neg h3]
    refine ⟨h.add (by omega) (by omega) (fun e he hp => h2 ⟨e, he, hp⟩), by simp; omega⟩

set_option maxHeartbeats 3200000 in
set_option maxRecDepth 100000 in
theorem step_0 (B : Nat) (w0 w : World) (p bm q : Nat) (vs : Int → Value) (v : Value) (E : List (Int × Int)) (c : Int) (F : Nat → Prop) (h : Two B w0 w p bm q vs v E c F) (pid pr : Int) :
    Calls Try.prog 18 #[.pointer (some ⟨p, 0, none⟩), .pointer (some ⟨q, 0, none⟩), opv 0 pid pr] w fun e w' => StepPost B w0 w p bm q c F e w' := by
  obtain ⟨hP, hG, hL, hc⟩ := h
  obtain ⟨X, hX⟩ : ∃ X, w.heap.size = X := ⟨_, rfl⟩
  obtain ⟨w1, hw1⟩ : ∃ w1, w.alloc (.cells #[.int .i64 0, .int .i64 pid, .int .i64 pr] 38) = w1 := ⟨_, rfl⟩
  have hx : w1.heap[X]? = some (.cells #[.int .i64 0, .int .i64 pid, .int .i64 pr] 38 (0, 0)) := by subst hw1 hX; exact heap_alloc_new w _
  have hf1 : Moved F F w w1 := by subst hw1; exact ⟨(Fr.refl _ w).alloc _, fun _ h => .inl h⟩
  have hfe : Fr (fun _ => False) w w1 := by subst hw1; exact (Fr.refl _ w).alloc _
  have hP1 := hP.keep hfe (fun _ _ h => h) (fun _ h => h.elim)
  have hlt : ∀ k, F k → k < X := fun k hk => by rw [← hX]; exact (hP.fb k hk).2
  have cx0 := blk_cell hx 0
  have cx1 := blk_cell hx 1
  have cx2 := blk_cell hx 2
  simp at cx0 cx1 cx2
  have hsum := sum_len E hG.pr
  obtain ⟨ra, E', hE'⟩ : ∃ ra E', raddSays E pid pr = (ra, E') := ⟨_, _, rfl⟩
  have hsame := add_same hG pid pr
  have hgood := add_good hG hL pid pr
  rw [hE'] at hsame hgood
  have HS := Lib.hid hsame
  have HE := Lib.hid hE'
  clear hP hsame hE' hfe
  unfold opv
  go_enter Try.func18, Try.ntmps18
  go_wp2_with fail
  have hP2 : Pair B w0 w1.drew p bm q vs (min c 8) (lst E) v E c F := hP1.keep ((Fr.refl (fun _ => False) w1).drew) (fun _ _ h => h) (fun _ h => h.elim)
  have hf2 : Moved F F w w1.drew := ⟨hf1.1.drew, hf1.2⟩
  have hx2 : w1.drew.heap[X]? = some (.cells #[.int .i64 0, .int .i64 pid, .int .i64 pr] 38 (0, 0)) := hx
  clear hx hP1 hf1 hw1
  refine wp_region_ord (Ord.take 0 (.take 1 (.take 2 (.take 3 (.take 4 (.take 6 (.take 7 (.take 8 (.take 9 (.take 10 (.alone 5 (.alone 11 (.take 12 (.take 13 .done))))))))))))))
    (fun W => W.cell? ⟨X, 1, none⟩ = some (.int .i64 pid) ∧ W.cell? ⟨X, 2, none⟩ = some (.int .i64 pr)) (by kernel_rfl) (by kernel_rfl) (by kernel_rfl) (fun c a d v w h => by cases d <;> exact h) ⟨cx1, cx2⟩ ?_
  refine ord_take (o := ⟨some 15, _, _, _, _, none⟩) _ rfl (by rfl) (fun W hW => by (obtain ⟨e1, e2⟩ := hW; go_simp; with_reducible rfl)) ?_
  simp only [Act.put, List.setIfInBounds_toArray, List.set_cons_zero, List.set_cons_succ]
  refine ord_take (o := ⟨some 16, _, _, _, _, none⟩) _ rfl (by rfl) (fun W hW => by (obtain ⟨e1, e2⟩ := hW; go_simp; with_reducible rfl)) ?_
  simp only [Act.put, List.setIfInBounds_toArray, List.set_cons_zero, List.set_cons_succ]
  refine ord_take (o := ⟨some 17, _, _, _, _, none⟩) _ rfl (by rfl) (fun W hW => by (obtain ⟨e1, e2⟩ := hW; go_simp; with_reducible rfl)) ?_
  simp only [Act.put, List.setIfInBounds_toArray, List.set_cons_zero, List.set_cons_succ]
  refine ord_take (o := ⟨some 18, _, _, _, _, none⟩) _ rfl (by rfl) (fun W hW => by (obtain ⟨e1, e2⟩ := hW; go_simp; with_reducible rfl)) ?_
  simp only [Act.put, List.setIfInBounds_toArray, List.set_cons_zero, List.set_cons_succ]
  refine ord_take (o := ⟨some 19, _, _, _, _, none⟩) _ rfl (by rfl) (fun W hW => by (obtain ⟨e1, e2⟩ := hW; go_simp; with_reducible rfl)) ?_
  simp only [Act.put, List.setIfInBounds_toArray, List.set_cons_zero, List.set_cons_succ]
  refine ord_take (o := ⟨some 21, _, _, _, _, none⟩) _ rfl (by rfl) (fun W hW => by (obtain ⟨e1, e2⟩ := hW; go_simp; with_reducible rfl)) ?_
  simp only [Act.put, List.setIfInBounds_toArray, List.set_cons_zero, List.set_cons_succ]
  refine ord_take (o := ⟨some 22, _, _, _, _, none⟩) _ rfl (by rfl) (fun W hW => by (obtain ⟨e1, e2⟩ := hW; go_simp; with_reducible rfl)) ?_
  simp only [Act.put, List.setIfInBounds_toArray, List.set_cons_zero, List.set_cons_succ]
  refine ord_take (o := ⟨some 23, _, _, _, _, none⟩) _ rfl (by rfl) (fun W hW => by (obtain ⟨e1, e2⟩ := hW; go_simp; with_reducible rfl)) ?_
  simp only [Act.put, List.setIfInBounds_toArray, List.set_cons_zero, List.set_cons_succ]
  refine ord_take (o := ⟨some 24, _, _, _, _, none⟩) _ rfl (by rfl) (fun W hW => by (obtain ⟨e1, e2⟩ := hW; go_simp; with_reducible rfl)) ?_
  simp only [Act.put, List.setIfInBounds_toArray, List.set_cons_zero, List.set_cons_succ]
  refine ord_take (o := ⟨some 25, _, _, _, _, none⟩) _ rfl (by rfl) (fun W hW => by (obtain ⟨e1, e2⟩ := hW; go_simp; with_reducible rfl)) ?_
  simp only [Act.put, List.setIfInBounds_toArray, List.set_cons_zero, List.set_cons_succ]
  refine ord_alone (o := ⟨some 20, _, _, _, _, none⟩) rfl (by rfl) (fun K hK => ?_)
  go_simp
  refine (Add_any p bm vs _ (lst E) pid pr _ hP2.b.q (by omega)).mono ?_
  rintro e w2 ⟨rfl, hp⟩
  rw [HS.out.1]
  rw [HS.out.2] at hp
  obtain ⟨vs3, F3, hP3, hf3⟩ := hP2.stepB hp
  have hx3 := hf3.1.at hx2 (fun h => absurd (hlt _ h) (Nat.lt_irrefl _))
  have cx1' := blk_cell hx3 1
  have cx2' := blk_cell hx3 2
  simp at cx1' cx2'
  have hlt3 : ¬ F3 X := fun h => by
    rcases hf3.2 X h with h | h
    · exact absurd (hlt X h) (Nat.lt_irrefl _)
    · have := blk_lt hx2; omega
  refine hK _ _ ⟨cx1', cx2'⟩ ?_
  clear hp hK K cx1 cx2 hP2
  refine ord_alone (o := ⟨some 26, _, _, _, _, none⟩) rfl (by rfl) (fun K hK => ?_)
  go_simp
  refine (RAdd_any q v E c pid pr _ hP3.r (by omega)).mono ?_
  rintro e w3 ⟨rfl, hp⟩
  rw [HE.out] at hp ⊢
  obtain ⟨v4, F4, hP4, hf4⟩ := hP3.stepR hp
  have hx4 := hf4.1.at hx3 hlt3
  have cx1 := blk_cell hx4 1
  have cx2 := blk_cell hx4 2
  simp at cx1 cx2
  refine hK _ _ ⟨cx1, cx2⟩ ?_
  clear hp hK K cx1' cx2' hP3
  refine ord_take (o := ⟨some 27, _, _, _, _, none⟩) _ rfl (by rfl) (fun W hW => by (obtain ⟨e1, e2⟩ := hW; go_simp; with_reducible rfl)) ?_
  simp only [Act.put, List.setIfInBounds_toArray, List.set_cons_zero, List.set_cons_succ]
  refine ord_take (o := ⟨some 6, _, _, _, _, none⟩) _ rfl (by rfl) (fun W hW => by (obtain ⟨e1, e2⟩ := hW; go_simp; with_reducible rfl)) ?_
  simp only [Act.put, List.setIfInBounds_toArray, List.set_cons_zero, List.set_cons_succ]
  refine ord_done ?_
  go_wp2_with fail
  go_ret
  exact ⟨rfl, vs3, v4, E', c, F4, ⟨hP4, hgood.1, hgood.2, hc⟩, hf2.trans (Moved.trans hf3 hf4), by omega⟩
/-- What the document's Drop answers. -/
def rdrop (E : List (Int × Int)) (pid : Int) : Int × List (Int × Int) :=
  if 0 ≤ place (fun e => e.1 == pid) E then (0, cutE E (place (fun e => e.1 == pid) E).toNat) else (250, E)

theorem rdrop_no {E : List (Int × Int)} {pid : Int} (h : place (fun e => e.1 == pid) E = -1) : rdrop E pid = (250, E) := by
  unfold rdrop; rw [h]; rfl

theorem rdrop_yes {E : List (Int × Int)} {pid : Int} {i : Nat} (h : place (fun e => e.1 == pid) E = i) : rdrop E pid = (0, cutE E i) := by
  unfold rdrop; rw [h, if_pos (by omega)]; rfl

theorem RDrop_any (q : Nat) (v : Value) (E : List (Int × Int)) (c pid : Int) (w : World) (hq : Rq w q v E c) (hl : E.length ≤ 1000) :
    Calls Try.prog 27 #[.pointer (some ⟨q, 0, none⟩), .int .i64 pid] w fun e w' => e = .returned (.int .i64 (rdrop E pid).1) ∧ RPost q v (rdrop E pid).2 c w w' := by
  rcases place_cases (fun e => e.1 == pid) E with ⟨h, hn⟩ | ⟨i, ⟨a, b⟩, h, he, hf, hn⟩
  · rw [rdrop_no h]
    exact (RDrop_no q v E c pid w hq hn).mono fun e w' ⟨h1, h2⟩ => ⟨h1, h2 ▸ hq.same (Below.refl _ _)⟩
  · rw [rdrop_yes h]
    simp at hf
    subst hf
    exact RDrop_yes q v E c a w hq hl i b he hn

theorem QDrop_of (f : Nat) (p bm : Nat) (vs : Int → Value) (c : Int) (E : List (Int × Int)) (pid : Int) (w : World) (hq : Qb w p bm vs c (lst E)) (hG : Good E)
    (h0 : (∀ j, 1 ≤ j → j ≤ 4 → pid ∉ lst E j) → Calls Try.prog f #[.pointer (some ⟨p, 0, none⟩), .int .i64 pid] w fun e w' => e = .returned (.int .i64 250) ∧ w' = w)
    (h1 : (∃ j, 1 ≤ j ∧ j ≤ 4 ∧ pid ∈ lst E j) → Calls Try.prog f #[.pointer (some ⟨p, 0, none⟩), .int .i64 pid] w fun e w' => DropPost p bm vs c (lst E) pid w e w') :
    Calls Try.prog f #[.pointer (some ⟨p, 0, none⟩), .int .i64 pid] w fun e w' => e = .returned (.int .i64 (rdrop E pid).1) ∧ QPost p bm vs c (lst (rdrop E pid).2) w w' := by
  rcases place_cases (fun e => e.1 == pid) E with ⟨h, hn⟩ | ⟨i, ⟨a, b⟩, h, he, hf, hn⟩
  · rw [rdrop_no h]
    refine (h0 fun j j1 j4 hj => ?_).mono fun e w' ⟨h1, h2⟩ => ⟨h1, h2 ▸ hq.same (Below.refl _ _)⟩
    have := hn _ (lst_mem.1 hj)
    simp at this
  · rw [rdrop_yes h]
    simp at hf
    subst hf
    refine (h1 ((hG.mem_iff a).2 ⟨_, List.mem_of_getElem? he, rfl⟩)).mono ?_
    rintro e w' ⟨h2, k, i', k1, k4, hk, hp⟩
    rw [lst_drop hG hk he] at hp
    exact ⟨h2, hp⟩

theorem Drop_any (p bm : Nat) (vs : Int → Value) (c : Int) (E : List (Int × Int)) (pid : Int) (w : World) (hq : Qb w p bm vs c (lst E)) (hG : Good E) (hl : E.length ≤ 64) :
    Calls Try.prog 22 #[.pointer (some ⟨p, 0, none⟩), .int .i64 pid] w fun e w' => e = .returned (.int .i64 (rdrop E pid).1) ∧ QPost p bm vs c (lst (rdrop E pid).2) w w' :=
  QDrop_of 22 p bm vs c E pid w hq hG (Drop_no p bm vs c (lst E) pid w hq) (fun h => Drop_yes p bm vs c (lst E) pid w hq h (by rw [sum_len E hG.pr]; omega))

theorem Pick_any (p bm : Nat) (vs : Int → Value) (c : Int) (E : List (Int × Int)) (pid : Int) (w : World) (hq : Qb w p bm vs c (lst E)) (hG : Good E) (hl : E.length ≤ 64) :
    Calls Try.prog 12 #[.pointer (some ⟨p, 0, none⟩), .int .i64 pid] w fun e w' => e = .returned (.int .i64 (rdrop E pid).1) ∧ QPost p bm vs c (lst (rdrop E pid).2) w w' :=
  QDrop_of 12 p bm vs c E pid w hq hG (Pick_no p bm vs c (lst E) pid w hq) (fun h => Pick_yes p bm vs c (lst E) pid w hq h (by rw [sum_len E hG.pr]; omega))

theorem rdrop_good {E : List (Int × Int)} (h : Good E) (hl : E.length ≤ 64) (pid : Int) : Good (rdrop E pid).2 ∧ (rdrop E pid).2.length ≤ 64 := by
  unfold rdrop
  split
  · refine ⟨h.cut _, ?_⟩
    unfold cutE
    simp
    omega
  · exact ⟨h, hl⟩

set_option maxHeartbeats 3200000 in
set_option maxRecDepth 100000 in
theorem step_1 (B : Nat) (w0 w : World) (p bm q : Nat) (vs : Int → Value) (v : Value) (E : List (Int × Int)) (c : Int) (F : Nat → Prop) (h : Two B w0 w p bm q vs v E c F) (pid pr : Int) :
    Calls Try.prog 18 #[.pointer (some ⟨p, 0, none⟩), .pointer (some ⟨q, 0, none⟩), opv 1 pid pr] w fun e w' => StepPost B w0 w p bm q c F e w' := by
  obtain ⟨hP, hG, hL, hc⟩ := h
  obtain ⟨X, hX⟩ : ∃ X, w.heap.size = X := ⟨_, rfl⟩
  obtain ⟨w1, hw1⟩ : ∃ w1, w.alloc (.cells #[.int .i64 1, .int .i64 pid, .int .i64 pr] 38) = w1 := ⟨_, rfl⟩
  have hx : w1.heap[X]? = some (.cells #[.int .i64 1, .int .i64 pid, .int .i64 pr] 38 (0, 0)) := by subst hw1 hX; exact heap_alloc_new w _
  have hf1 : Moved F F w w1 := by subst hw1; exact ⟨(Fr.refl _ w).alloc _, fun _ h => .inl h⟩
  have hfe : Fr (fun _ => False) w w1 := by subst hw1; exact (Fr.refl _ w).alloc _
  have hP1 := hP.keep hfe (fun _ _ h => h) (fun _ h => h.elim)
  have hlt : ∀ k, F k → k < X := fun k hk => by rw [← hX]; exact (hP.fb k hk).2
  have cx0 := blk_cell hx 0
  have cx1 := blk_cell hx 1
  simp at cx0 cx1
  obtain ⟨ra, E', hE'⟩ : ∃ ra E', rdrop E pid = (ra, E') := ⟨_, _, rfl⟩
  have hgood := rdrop_good hG hL pid
  rw [hE'] at hgood
  have HE := Lib.hid hE'
  clear hP hE' hfe
  unfold opv
  go_enter Try.func18, Try.ntmps18
  go_wp2_with fail
  have hP2 : Pair B w0 w1.drew p bm q vs (min c 8) (lst E) v E c F := hP1.keep ((Fr.refl (fun _ => False) w1).drew) (fun _ _ h => h) (fun _ h => h.elim)
  have hf2 : Moved F F w w1.drew := ⟨hf1.1.drew, hf1.2⟩
  have hx2 : w1.drew.heap[X]? = some (.cells #[.int .i64 1, .int .i64 pid, .int .i64 pr] 38 (0, 0)) := hx
  clear hx hP1 hf1 hw1
  refine wp_region_ord (Ord.take 0 (.take 1 (.take 2 (.take 4 (.take 5 (.take 6 (.alone 3 (.alone 7 (.take 8 (.take 9 .done))))))))))
    (fun W => W.cell? ⟨X, 1, none⟩ = some (.int .i64 pid) ∧ True) (by kernel_rfl) (by kernel_rfl) (by kernel_rfl) (fun c a d v w h => by cases d <;> exact h) ⟨cx1, trivial⟩ ?_
  refine ord_take (o := ⟨some 30, _, _, _, _, none⟩) _ rfl (by rfl) (fun W hW => by (obtain ⟨e1, e2⟩ := hW; go_simp; with_reducible rfl)) ?_
  simp only [Act.put, List.setIfInBounds_toArray, List.set_cons_zero, List.set_cons_succ]
  refine ord_take (o := ⟨some 31, _, _, _, _, none⟩) _ rfl (by rfl) (fun W hW => by (obtain ⟨e1, e2⟩ := hW; go_simp; with_reducible rfl)) ?_
  simp only [Act.put, List.setIfInBounds_toArray, List.set_cons_zero, List.set_cons_succ]
  refine ord_take (o := ⟨some 32, _, _, _, _, none⟩) _ rfl (by rfl) (fun W hW => by (obtain ⟨e1, e2⟩ := hW; go_simp; with_reducible rfl)) ?_
  simp only [Act.put, List.setIfInBounds_toArray, List.set_cons_zero, List.set_cons_succ]
  refine ord_take (o := ⟨some 34, _, _, _, _, none⟩) _ rfl (by rfl) (fun W hW => by (obtain ⟨e1, e2⟩ := hW; go_simp; with_reducible rfl)) ?_
  simp only [Act.put, List.setIfInBounds_toArray, List.set_cons_zero, List.set_cons_succ]
  refine ord_take (o := ⟨some 35, _, _, _, _, none⟩) _ rfl (by rfl) (fun W hW => by (obtain ⟨e1, e2⟩ := hW; go_simp; with_reducible rfl)) ?_
  simp only [Act.put, List.setIfInBounds_toArray, List.set_cons_zero, List.set_cons_succ]
  refine ord_take (o := ⟨some 36, _, _, _, _, none⟩) _ rfl (by rfl) (fun W hW => by (obtain ⟨e1, e2⟩ := hW; go_simp; with_reducible rfl)) ?_
  simp only [Act.put, List.setIfInBounds_toArray, List.set_cons_zero, List.set_cons_succ]
  refine ord_alone (o := ⟨some 33, _, _, _, _, none⟩) rfl (by rfl) (fun K hK => ?_)
  go_simp
  refine (Drop_any p bm vs _ E pid _ hP2.b.q hG hL).mono ?_
  rintro e w2 ⟨rfl, hp⟩
  rw [HE.out] at hp ⊢
  obtain ⟨vs3, F3, hP3, hf3⟩ := hP2.stepB hp
  have hx3 := hf3.1.at hx2 (fun h => absurd (hlt _ h) (Nat.lt_irrefl _))
  have cx1' := blk_cell hx3 1
  simp at cx1'
  have hlt3 : ¬ F3 X := fun h => by
    rcases hf3.2 X h with h | h
    · exact absurd (hlt X h) (Nat.lt_irrefl _)
    · have := blk_lt hx2; omega
  refine hK _ _ ⟨cx1', trivial⟩ ?_
  clear hp hK K cx1 hP2
  refine ord_alone (o := ⟨some 37, _, _, _, _, none⟩) rfl (by rfl) (fun K hK => ?_)
  go_simp
  refine (RDrop_any q v E c pid _ hP3.r (by omega)).mono ?_
  rintro e w3 ⟨rfl, hp⟩
  rw [HE.out] at hp ⊢
  obtain ⟨v4, F4, hP4, hf4⟩ := hP3.stepR hp
  have hx4 := hf4.1.at hx3 hlt3
  have cx1 := blk_cell hx4 1
  simp at cx1
  refine hK _ _ ⟨cx1, trivial⟩ ?_
  clear hp hK K cx1' hP3
  refine ord_take (o := ⟨some 38, _, _, _, _, none⟩) _ rfl (by rfl) (fun W hW => by (obtain ⟨e1, e2⟩ := hW; go_simp; with_reducible rfl)) ?_
  simp only [Act.put, List.setIfInBounds_toArray, List.set_cons_zero, List.set_cons_succ]
  refine ord_take (o := ⟨some 6, _, _, _, _, none⟩) _ rfl (by rfl) (fun W hW => by (obtain ⟨e1, e2⟩ := hW; go_simp; with_reducible rfl)) ?_
  simp only [Act.put, List.setIfInBounds_toArray, List.set_cons_zero, List.set_cons_succ]
  refine ord_done ?_
  go_wp2_with fail
  go_ret
  exact ⟨rfl, vs3, v4, E', c, F4, ⟨hP4, hgood.1, hgood.2, hc⟩, hf2.trans (Moved.trans hf3 hf4), by omega⟩

set_option maxHeartbeats 3200000 in
set_option maxRecDepth 100000 in
theorem step_2 (B : Nat) (w0 w : World) (p bm q : Nat) (vs : Int → Value) (v : Value) (E : List (Int × Int)) (c : Int) (F : Nat → Prop) (h : Two B w0 w p bm q vs v E c F) (pid pr : Int) :
    Calls Try.prog 18 #[.pointer (some ⟨p, 0, none⟩), .pointer (some ⟨q, 0, none⟩), opv 2 pid pr] w fun e w' => StepPost B w0 w p bm q c F e w' := by
  obtain ⟨hP, hG, hL, hc⟩ := h
  obtain ⟨X, hX⟩ : ∃ X, w.heap.size = X := ⟨_, rfl⟩
  obtain ⟨w1, hw1⟩ : ∃ w1, w.alloc (.cells #[.int .i64 2, .int .i64 pid, .int .i64 pr] 38) = w1 := ⟨_, rfl⟩
  have hx : w1.heap[X]? = some (.cells #[.int .i64 2, .int .i64 pid, .int .i64 pr] 38 (0, 0)) := by subst hw1 hX; exact heap_alloc_new w _
  have hf1 : Moved F F w w1 := by subst hw1; exact ⟨(Fr.refl _ w).alloc _, fun _ h => .inl h⟩
  have hfe : Fr (fun _ => False) w w1 := by subst hw1; exact (Fr.refl _ w).alloc _
  have hP1 := hP.keep hfe (fun _ _ h => h) (fun _ h => h.elim)
  have hlt : ∀ k, F k → k < X := fun k hk => by rw [← hX]; exact (hP.fb k hk).2
  have cx0 := blk_cell hx 0
  have cx1 := blk_cell hx 1
  simp at cx0 cx1
  obtain ⟨ra, E', hE'⟩ : ∃ ra E', rdrop E pid = (ra, E') := ⟨_, _, rfl⟩
  have hgood := rdrop_good hG hL pid
  rw [hE'] at hgood
  have HE := Lib.hid hE'
  clear hP hE' hfe
  unfold opv
  go_enter Try.func18, Try.ntmps18
  go_wp2_with fail
  have hP2 : Pair B w0 w1.drew p bm q vs (min c 8) (lst E) v E c F := hP1.keep ((Fr.refl (fun _ => False) w1).drew) (fun _ _ h => h) (fun _ h => h.elim)
  have hf2 : Moved F F w w1.drew := ⟨hf1.1.drew, hf1.2⟩
  have hx2 : w1.drew.heap[X]? = some (.cells #[.int .i64 2, .int .i64 pid, .int .i64 pr] 38 (0, 0)) := hx
  clear hx hP1 hf1 hw1
  refine wp_region_ord (Ord.take 0 (.take 1 (.take 2 (.take 4 (.take 5 (.take 6 (.alone 3 (.alone 7 (.take 8 (.take 9 .done))))))))))
    (fun W => W.cell? ⟨X, 1, none⟩ = some (.int .i64 pid) ∧ True) (by kernel_rfl) (by kernel_rfl) (by kernel_rfl) (fun c a d v w h => by cases d <;> exact h) ⟨cx1, trivial⟩ ?_
  refine ord_take (o := ⟨some 41, _, _, _, _, none⟩) _ rfl (by rfl) (fun W hW => by (obtain ⟨e1, e2⟩ := hW; go_simp; with_reducible rfl)) ?_
  simp only [Act.put, List.setIfInBounds_toArray, List.set_cons_zero, List.set_cons_succ]
  refine ord_take (o := ⟨some 42, _, _, _, _, none⟩) _ rfl (by rfl) (fun W hW => by (obtain ⟨e1, e2⟩ := hW; go_simp; with_reducible rfl)) ?_
  simp only [Act.put, List.setIfInBounds_toArray, List.set_cons_zero, List.set_cons_succ]
  refine ord_take (o := ⟨some 43, _, _, _, _, none⟩) _ rfl (by rfl) (fun W hW => by (obtain ⟨e1, e2⟩ := hW; go_simp; with_reducible rfl)) ?_
  simp only [Act.put, List.setIfInBounds_toArray, List.set_cons_zero, List.set_cons_succ]
  refine ord_take (o := ⟨some 45, _, _, _, _, none⟩) _ rfl (by rfl) (fun W hW => by (obtain ⟨e1, e2⟩ := hW; go_simp; with_reducible rfl)) ?_
  simp only [Act.put, List.setIfInBounds_toArray, List.set_cons_zero, List.set_cons_succ]
  refine ord_take (o := ⟨some 46, _, _, _, _, none⟩) _ rfl (by rfl) (fun W hW => by (obtain ⟨e1, e2⟩ := hW; go_simp; with_reducible rfl)) ?_
  simp only [Act.put, List.setIfInBounds_toArray, List.set_cons_zero, List.set_cons_succ]
  refine ord_take (o := ⟨some 47, _, _, _, _, none⟩) _ rfl (by rfl) (fun W hW => by (obtain ⟨e1, e2⟩ := hW; go_simp; with_reducible rfl)) ?_
  simp only [Act.put, List.setIfInBounds_toArray, List.set_cons_zero, List.set_cons_succ]
  refine ord_alone (o := ⟨some 44, _, _, _, _, none⟩) rfl (by rfl) (fun K hK => ?_)
  go_simp
  refine (Pick_any p bm vs _ E pid _ hP2.b.q hG hL).mono ?_
  rintro e w2 ⟨rfl, hp⟩
  rw [HE.out] at hp ⊢
  obtain ⟨vs3, F3, hP3, hf3⟩ := hP2.stepB hp
  have hx3 := hf3.1.at hx2 (fun h => absurd (hlt _ h) (Nat.lt_irrefl _))
  have cx1' := blk_cell hx3 1
  simp at cx1'
  have hlt3 : ¬ F3 X := fun h => by
    rcases hf3.2 X h with h | h
    · exact absurd (hlt X h) (Nat.lt_irrefl _)
    · have := blk_lt hx2; omega
  refine hK _ _ ⟨cx1', trivial⟩ ?_
  clear hp hK K cx1 hP2
  refine ord_alone (o := ⟨some 48, _, _, _, _, none⟩) rfl (by rfl) (fun K hK => ?_)
  go_simp
  refine (RDrop_any q v E c pid _ hP3.r (by omega)).mono ?_
  rintro e w3 ⟨rfl, hp⟩
  rw [HE.out] at hp ⊢
  obtain ⟨v4, F4, hP4, hf4⟩ := hP3.stepR hp
  have hx4 := hf4.1.at hx3 hlt3
  have cx1 := blk_cell hx4 1
  simp at cx1
  refine hK _ _ ⟨cx1, trivial⟩ ?_
  clear hp hK K cx1' hP3
  refine ord_take (o := ⟨some 49, _, _, _, _, none⟩) _ rfl (by rfl) (fun W hW => by (obtain ⟨e1, e2⟩ := hW; go_simp; with_reducible rfl)) ?_
  simp only [Act.put, List.setIfInBounds_toArray, List.set_cons_zero, List.set_cons_succ]
  refine ord_take (o := ⟨some 6, _, _, _, _, none⟩) _ rfl (by rfl) (fun W hW => by (obtain ⟨e1, e2⟩ := hW; go_simp; with_reducible rfl)) ?_
  simp only [Act.put, List.setIfInBounds_toArray, List.set_cons_zero, List.set_cons_succ]
  refine ord_done ?_
  go_wp2_with fail
  go_ret
  exact ⟨rfl, vs3, v4, E', c, F4, ⟨hP4, hgood.1, hgood.2, hc⟩, hf2.trans (Moved.trans hf3 hf4), by omega⟩

set_option maxHeartbeats 3200000 in
theorem step_3 (B : Nat) (w0 w : World) (p bm q : Nat) (vs : Int → Value) (v : Value) (E : List (Int × Int)) (c : Int) (F : Nat → Prop) (h : Two B w0 w p bm q vs v E c F) (hcb : c ≤ 1125899906842624) (pid pr : Int) :
    Calls Try.prog 18 #[.pointer (some ⟨p, 0, none⟩), .pointer (some ⟨q, 0, none⟩), opv 3 pid pr] w fun e w' => StepPost B w0 w p bm q c F e w' := by
  obtain ⟨hP, hG, hL, hc⟩ := h
  obtain ⟨X, hX⟩ : ∃ X, w.heap.size = X := ⟨_, rfl⟩
  obtain ⟨w1, hw1⟩ : ∃ w1, w.alloc (.cells #[.int .i64 3, .int .i64 pid, .int .i64 pr] 38) = w1 := ⟨_, rfl⟩
  have hx : w1.heap[X]? = some (.cells #[.int .i64 3, .int .i64 pid, .int .i64 pr] 38 (0, 0)) := by subst hw1 hX; exact heap_alloc_new w _
  have hf1 : Moved F F w w1 := by subst hw1; exact ⟨(Fr.refl _ w).alloc _, fun _ h => .inl h⟩
  have hfe : Fr (fun _ => False) w w1 := by subst hw1; exact (Fr.refl _ w).alloc _
  have hP1 := hP.keep hfe (fun _ _ h => h) (fun _ h => h.elim)
  have cx0 := blk_cell hx 0
  simp at cx0
  clear hP hfe hx
  unfold opv
  rcases turn_same E c with ⟨h1, h2⟩ | ⟨i, x, k, h1, h2, h3, k1, k4, h5, h6⟩
  · have H1 := Lib.hid h1
    have H2 := Lib.hid h2
    clear h1 h2
    go_enter Try.func18, Try.ntmps18
    go_wp2_with fail
    refine (Next_none p bm vs _ (lst E) _ hP1.b.q H2.out).mono ?_
    rintro e w2 ⟨rfl, hp⟩
    obtain ⟨vs3, F3, hP3, hf3⟩ := hP1.stepB hp
    clear hp hP1
    go_wp2_with fail
    refine (RNext_none q v E c _ hP3.r H1.out).mono ?_
    rintro e w3 ⟨rfl, rfl⟩
    go_wp2_with fail
    go_ret
    exact ⟨rfl, vs3, v, E, c, F3, ⟨hP3, hG, hL, hc⟩, hf1.trans hf3, by omega⟩
  · have hil : i < E.length := (List.getElem?_eq_some_iff.1 h2).1
    have H1 := Lib.hid h1
    have H2 := Lib.hid h2
    have H3 := Lib.hid h3
    have H5 := Lib.hid h5
    have H6 := Lib.hid h6
    have hcl := cutE_len hil
    have HC := Lib.hid hcl
    have hc2 : 0 ≤ rcount k c ∧ rcount k c ≤ c + 1 := by unfold rcount; split; omega; split; omega; omega
    clear h1 h2 h3 h5 h6 hcl
    go_enter Try.func18, Try.ntmps18
    go_wp2_with fail
    refine (Next_some p bm vs _ (lst E) _ hP1.b.q k H3.out k1 x _ H5.out (by omega) (by omega)).mono ?_
    rintro e w2 ⟨rfl, hp⟩
    rw [H6.out, ← rcount_min] at hp
    obtain ⟨vs3, F3, hP3, hf3⟩ := hP1.stepB hp
    clear hp hP1
    go_wp2_with fail
    refine (RNext_some q v E c _ hP3.r (by omega) i x k H1.out H2.out hc (by omega)).mono ?_
    rintro e w3 ⟨rfl, hp⟩
    obtain ⟨v4, F4, hP4, hf4⟩ := hP3.stepR hp
    clear hp hP3
    go_wp2_with fail
    go_ret
    exact ⟨rfl, vs3, v4, _, _, F4, ⟨hP4, hG.cut i, by rw [HC.out]; omega, hc2.1⟩, hf1.trans (Moved.trans hf3 hf4), hc2.2⟩

theorem step_other (B : Nat) (w0 w : World) (p bm q : Nat) (vs : Int → Value) (v : Value) (E : List (Int × Int)) (c : Int) (F : Nat → Prop) (h : Two B w0 w p bm q vs v E c F) (k pid pr : Int) (hk : k ≠ 0 ∧ k ≠ 1 ∧ k ≠ 2 ∧ k ≠ 3) :
    Calls Try.prog 18 #[.pointer (some ⟨p, 0, none⟩), .pointer (some ⟨q, 0, none⟩), opv k pid pr] w fun e w' => StepPost B w0 w p bm q c F e w' := by
  obtain ⟨hP, hG, hL, hc⟩ := h
  obtain ⟨k0, k1, k2, k3⟩ := hk
  obtain ⟨X, hX⟩ : ∃ X, w.heap.size = X := ⟨_, rfl⟩
  obtain ⟨w1, hw1⟩ : ∃ w1, w.alloc (.cells #[.int .i64 k, .int .i64 pid, .int .i64 pr] 38) = w1 := ⟨_, rfl⟩
  have hx : w1.heap[X]? = some (.cells #[.int .i64 k, .int .i64 pid, .int .i64 pr] 38 (0, 0)) := by subst hw1 hX; exact heap_alloc_new w _
  have hf1 : Moved F F w w1 := by subst hw1; exact ⟨(Fr.refl _ w).alloc _, fun _ h => .inl h⟩
  have hfe : Fr (fun _ => False) w w1 := by subst hw1; exact (Fr.refl _ w).alloc _
  have hP1 := hP.keep hfe (fun _ _ h => h) (fun _ h => h.elim)
  have cx0 := blk_cell hx 0
  simp at cx0
  clear hP hfe hx
  unfold opv
  go_enter Try.func18, Try.ntmps18
  go_wp2_with fail
  go_ret
  exact ⟨rfl, vs, v, E, c, F, ⟨hP1, hG, hL, hc⟩, hf1, by omega⟩

theorem step_any (B : Nat) (w0 w : World) (p bm q : Nat) (vs : Int → Value) (v : Value) (E : List (Int × Int)) (c : Int) (F : Nat → Prop) (h : Two B w0 w p bm q vs v E c F) (hcb : c ≤ 1125899906842624) (k pid pr : Int) :
    Calls Try.prog 18 #[.pointer (some ⟨p, 0, none⟩), .pointer (some ⟨q, 0, none⟩), opv k pid pr] w fun e w' => StepPost B w0 w p bm q c F e w' := by
  by_cases h0 : k = 0
  · subst h0; exact step_0 B w0 w p bm q vs v E c F h pid pr
  by_cases h1 : k = 1
  · subst h1; exact step_1 B w0 w p bm q vs v E c F h pid pr
  by_cases h2 : k = 2
  · subst h2; exact step_2 B w0 w p bm q vs v E c F h pid pr
  by_cases h3 : k = 3
  · subst h3; exact step_3 B w0 w p bm q vs v E c F h hcb pid pr
  exact step_other B w0 w p bm q vs v E c F h k pid pr ⟨h0, h1, h2, h3⟩
end Go.Proofs.Ytjdinopiipmojaa
