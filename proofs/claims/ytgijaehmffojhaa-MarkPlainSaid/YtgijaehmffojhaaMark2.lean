/- The marked mailbox: Mark, Use, Forget. -/
import Derived.Test.YtgijaehmffojhaaMarks
namespace Go.Proofs.Ytgijaehmffojhaa
open Go.RowKit

theorem Try.info78 : (Try.prog.info? 78).map (fun i => (i.zero, i.size, i.bytes)) = some (some (.agg #[.int .i64 0, .pointer none]), 2, 16) := by kernel_rfl

theorem Sl.drop {w : World} {e size n g off cap : Nat} {xs : List Value} (h : Sl w e size (.slice (some ⟨g, off, none⟩) n cap) n xs) {k : Nat} (hk : k ≤ n) :
    Sl w e size (.slice (some (if cap = k then ⟨g, off, none⟩ else ⟨g, off + k * size, none⟩)) (n - k) (cap - k)) (n - k) (xs.drop (k * size)) := by
  obtain ⟨ao', cap', hv, h0, h1, h2, h3⟩ := h
  simp at hv
  obtain ⟨rfl, rfl⟩ := hv
  rcases h3 with ⟨h, _⟩ | ⟨g', off', cur, hv, hb, hc, hx⟩
  · cases h
  simp at hv
  obtain ⟨rfl, rfl⟩ := hv
  have hm : k * size ≤ n * size := Nat.mul_le_mul_right _ hk
  have hm2 : k * size ≤ cap * size := Nat.mul_le_mul_right _ (by omega)
  refine ⟨_, _, rfl, by rw [List.length_drop, h0, Nat.sub_mul], by omega, by omega, .inr ?_⟩
  by_cases hck : cap = k
  · rw [if_pos hck]
    refine ⟨g, off, cur, rfl, hb, by rw [show cap - k = 0 by omega]; omega, ?_⟩
    rw [show n - k = 0 by omega, ← hx, show k = n by omega]
    simp
  · rw [if_neg hck]
    refine ⟨g, off + k * size, cur, rfl, hb, by rw [Nat.sub_mul]; omega, ?_⟩
    rw [← hx, Nat.sub_mul, List.drop_take, List.drop_drop]

theorem wp_append_rd {P : Program} {Q : Exit → Act → World → Prop} {w : World} {o : Oper} {a : Act} (s x : Operand) (t : TypeId)
    (ho : o.op = .call { callee := .builtin .append, args := #[s, x], argTypes := #[t, t] })
    (e : TypeId) (i : TypeInfo) (z : Value) (size bytes : Nat) (ht : P.underlying t = some (.slice e)) (hi : P.info? e = some i) (hz : i.zero = some z)
    (hsize : i.size = size) (hby : i.bytes = bytes) (hzs : z.cells.size = size) (hsz : 0 < size)
    (v : Value) (n : Nat) (xs : List Value) (hs : a.eval s = v) (hown : Sl w e size v n xs)
    (y : Value) (m : Nat) (news : List Value) (hx : a.eval x = y) (hrd : Rd w size y m news) (h1 : ∀ u ∈ news, u.oneCell' = true)
    (h63 : n + m ≤ maxLen) (hbytes : (n + m) * bytes ≤ 140737488355328) {K : Act → World → Prop}
    (h : ∀ v' w', Sl w' e size v' (n + m) (xs ++ news) → Fr (fun k => v.ownBlock = some k) w w' → (v'.ownBlock = v.ownBlock ∨ v'.ownBlock = some w.heap.size) → K (a.put o.dst v') w') : o.wp P a w K Q := by
  obtain ⟨v', w', hr, h2, h3, h4⟩ := run_append_sl_rd (P := P) w t o.type e i z size bytes ht hi hz hsize hby hzs hsz v n xs hown y m news hrd h1 h63 hbytes
  unfold Oper.wp execOp
  simp only [ho, resolve, invoke, builtin, Sem.run_bind, Sem.run_pure, Result.andThen_ok, List.map_toArray, List.map_cons, List.map_nil, hs, hx, hr]
  exact h v' w' h2 h3 h4


theorem Sl.clip {w : World} {e size n cap : Nat} {ao : Option Addr} {xs : List Value} (h : Sl w e size (.slice ao n cap) n xs) {k : Nat} (hk : k ≤ n) : Sl w e size (.slice ao k k) k (xs.take (k * size)) := by
  obtain ⟨ao', cap', hv, h0, h1, h2, h3⟩ := h
  simp at hv
  obtain ⟨rfl, rfl⟩ := hv
  have hm : k * size ≤ n * size := Nat.mul_le_mul_right _ hk
  have hm2 : k * size ≤ cap * size := Nat.mul_le_mul_right _ (by omega)
  refine ⟨_, _, rfl, by rw [List.length_take]; omega, Nat.le_refl _, by omega, ?_⟩
  rcases h3 with ⟨rfl, h⟩ | ⟨g, off, cur, rfl, hb, hc, hx⟩
  · exact .inl ⟨rfl, by omega⟩
  · refine .inr ⟨g, off, cur, rfl, hb, by omega, ?_⟩
    rw [← hx, List.take_take]
    congr 1
    omega

theorem MPost.from {w w1 w' : World} {p : Nat} {ns : List (Nat × Int)} {mv : Value} {Y : Bx} {F : Nat → Prop} (hf : Fr F w w1) (hF : ∀ k, F k → mf p ns mv k) (h : MPost p ns mv Y w1 w') : MPost p ns mv Y w w' := by
  obtain ⟨mv', hb, hf', hg⟩ := h
  exact ⟨mv', hb, (hf.mono hF).trans hf', fun k hk => (hg k hk).imp id (fun h => Nat.le_trans hf.size h)⟩

theorem Mb.put_ms {w w1 : World} {p : Nat} {mv mv' : Value} {X : Bx} (h : Mb w p mv X) (hf : Fr (fun k => mv.ownBlock = some k) w w1) {ms : List (Int × Nat)} (hs : Sl w1 78 2 mv' ms.length (mcs X.ns ms)) (hm : ∀ m ∈ ms, m.2 ≤ X.ns.length) :
    Mb (w1.setCell ⟨p, 7, none⟩ mv') p mv' { X with ms := ms } := by
  have hd1 : Dl w1 p X.ns _ _ _ _ _ _ := h.dl.keep hf (fun k hk hk' => by
    rcases hk with e | hm
    · exact h.nep k hk' e
    · obtain ⟨i, x, hi⟩ := mem_at hm
      exact h.nen hi k hk' rfl)
  exact ⟨hd1.set7 _, hs.set_other (a := ⟨p, 7, none⟩) _ (hs.ne hd1.blk (by decide)), h.last, h.fro, hm⟩

/-- The marks put in anew. -/
theorem Mb.set_ms {w w1 : World} {p : Nat} {mv mv' : Value} {X : Bx} (h : Mb w p mv X) (hf : Fr (fun k => mv.ownBlock = some k) w w1) {ms : List (Int × Nat)} (hs : Sl w1 78 2 mv' ms.length (mcs X.ns ms)) (hm : ∀ m ∈ ms, m.2 ≤ X.ns.length)
    (hv : mv'.ownBlock = mv.ownBlock ∨ ∀ b, mv'.ownBlock = some b → w.heap.size ≤ b) : MPost p X.ns mv { X with ms := ms } w (w1.setCell ⟨p, 7, none⟩ mv') := by
  have hd1 : Dl w1 p X.ns _ _ _ _ _ _ := h.dl.keep hf (fun k hk hk' => by
    rcases hk with e | hm
    · exact h.nep k hk' e
    · obtain ⟨i, x, hi⟩ := mem_at hm
      exact h.nen hi k hk' rfl)
  refine ⟨mv', ⟨hd1.set7 _, hs.set_other (a := ⟨p, 7, none⟩) _ (hs.ne hd1.blk (by decide)), h.last, h.fro, hm⟩, setCell_p (hf.mono fun k hk => Or.inr hk) 7 _, fun k hk => ?_⟩
  rcases hk with hk | hk
  · exact .inl (.inl hk)
  · rcases hv with hv | hv
    · exact .inl (.inr (hv ▸ hk))
    · exact .inr (hv k hk)

def Bx.mark (X : Bx) (ref : Int) : Bx := { X with ms := X.ms ++ [(ref, X.ns.length)] }
def Bx.first (X : Bx) : Bx := { X with ms := X.ms.drop 1 }

theorem Mb.tail {w : World} {p : Nat} {mv : Value} {X : Bx} (h : Mb w p mv X) : w.cell? ⟨p, 1, none⟩ = some (ptr (pos X.ns X.ns.length)) := by
  have := blk_cell h.dl.blk 1
  simpa using this

theorem Mark_arg (p : Nat) (mv : Value) (X : Bx) (ref : Int) (w : World) (h : Mb w p mv X) (hr : ref < 1 ∨ 281474976710656 < ref) :
    Calls Try.prog 18 #[.pointer (some ⟨p, 0, none⟩), .int .i64 ref] w fun e w' => e = .returned (.int .i64 1) ∧ MPost p X.ns mv X w w' := by
  have hsame := h.same (Below.refl _ _)
  by_cases h1 : ref < 1
  · go_enter Try.func18, Try.ntmps18
    go_wp2
    go_ret
    exact ⟨rfl, hsame⟩
  · have h2 : 281474976710656 < ref := by omega
    go_enter Try.func18, Try.ntmps18
    go_wp2
    go_ret
    exact ⟨rfl, hsame⟩

theorem Mark_twice (p : Nat) (mv : Value) (X : Bx) (ref : Int) (w : World) (h : Mb w p mv X) (h1 : 1 ≤ ref) (h2 : ref ≤ 281474976710656) (hl : X.ms.length ≤ 1000) (hp : 0 ≤ place (·.1) ref X.ms) :
    Calls Try.prog 18 #[.pointer (some ⟨p, 0, none⟩), .int .i64 ref] w fun e w' => e = .returned (.int .i64 6) ∧ MPost p X.ns mv X w w' := by
  obtain ⟨pl, hpl⟩ : ∃ pl, place (·.1) ref X.ms = pl := ⟨_, rfl⟩
  rw [hpl] at hp
  have HP := Lib.hid hpl
  clear hpl
  go_enter Try.func18, Try.ntmps18
  go_wp2_with fail
  refine (find_any p mv X ref _ h hl).mono ?_
  rintro e w1 ⟨rfl, hb⟩
  rw [HP.out]
  go_wp2_with fail
  go_ret
  exact ⟨rfl, h.same hb⟩

set_option maxHeartbeats 3200000 in
set_option maxRecDepth 100000 in
theorem Mark_new (p : Nat) (mv : Value) (X : Bx) (ref : Int) (w : World) (h : Mb w p mv X) (h1 : 1 ≤ ref) (h2 : ref ≤ 281474976710656) (hl : X.ms.length < 64) (hp : place (·.1) ref X.ms = -1) :
    Calls Try.prog 18 #[.pointer (some ⟨p, 0, none⟩), .int .i64 ref] w fun e w' => e = .returned (.int .i64 0) ∧ MPost p X.ns mv (X.mark ref) w w' := by
  obtain ⟨i0, hinf, hz0, hz1, hz2⟩ := info_parts Try.info78
  obtain ⟨ao, cap, rfl, hcap, hmax⟩ := h.own.shape
  unfold maxLen at hmax
  have HP := Lib.hid hp
  clear hp
  obtain ⟨mm, hmm⟩ : ∃ mm, X.ms.length = mm := ⟨_, rfl⟩
  rw [hmm] at h hl hcap ⊢
  have HM := Lib.hid hmm
  have hlh : X.ms.length ≤ 1000 := by omega
  have HLH := Lib.hid hlh
  clear hmm hlh
  go_enter Try.func18, Try.ntmps18
  go_wp2_with fail
  refine (find_any p _ X ref _ h HLH.out).mono ?_
  rintro e w1 ⟨rfl, hb⟩
  rw [HP.out]
  have h1 := h.keep (bel_fr0 hb) (fun _ _ h => h)
  have c7 := blk_cell h1.dl.blk 7
  simp at c7
  go_upto_region 9 with fail
  clear c7
  have hT : w1.drew.cell? ⟨p, 1, none⟩ = some (ptr (pos X.ns X.ns.length)) := h1.tail
  obtain ⟨ot, hot⟩ : ∃ o, ptr (pos X.ns X.ns.length) = .pointer o := ⟨_, ptr_shape _⟩
  rw [hot] at hT
  have HOT := Lib.hid hot
  have h2 : Mb w1.drew p (.slice ao mm cap) X := h1.keep ((Fr.refl (fun _ => False) w1).drew) (fun _ _ h => h)
  have hf2 : Fr (fun _ => False) w1 w1.drew := (Fr.refl _ w1).drew
  refine wp_region_ord (Ord.take 0 (.take 1 (.take 2 (.take 3 (.take 5 (.take 6 (.take 7 (.take 8 (.take 9 (.take 10 (.take 11 (.fork 4 12 (.alone 12 (.alone 13 (.take 14 (.take 15 (.alone 16 .done))))) (.alone 4 (.alone 13 (.take 14 (.take 15 (.alone 16 .done)))))))))))))))))
    (fun W => W.cell? ⟨p, 1, none⟩ = some (.pointer ot)) (by kernel_rfl) (by kernel_rfl) (by kernel_rfl) (fun c a d v w h => by cases d <;> exact h) hT ?_
  generalize w1.drew = w2 at hT h2 hf2 ⊢
  clear hot h1
  have c7 := blk_cell h2.dl.blk 7
  simp at c7
  have h3 : Mb (w2.alloc (.cells #[.int .i64 ref, .pointer ot] 78)) p (.slice ao mm cap) X := h2.keep ((Fr.refl (fun _ => False) w2).alloc _) (fun _ _ h => h)
  have c7' := blk_cell h3.dl.blk 7
  have hT' := h3.tail
  rw [HOT.out] at hT'
  simp at c7'
  refine ord_take (o := ⟨some 34, _, _, _, _, none⟩) _ rfl (by rfl) (fun W hW => by (go_simp; with_reducible rfl)) ?_
  simp only [Act.put, List.setIfInBounds_toArray, List.set_cons_zero, List.set_cons_succ]
  refine ord_take (o := ⟨some 35, _, _, _, _, none⟩) _ rfl (by rfl) (fun W hW => by (go_simp; with_reducible rfl)) ?_
  simp only [Act.put, List.setIfInBounds_toArray, List.set_cons_zero, List.set_cons_succ]
  refine ord_take (o := ⟨some 36, _, _, _, _, none⟩) _ rfl (by rfl) (fun W hW => by (go_simp; with_reducible rfl)) ?_
  simp only [Act.put, List.setIfInBounds_toArray, List.set_cons_zero, List.set_cons_succ]
  refine ord_take (o := ⟨some 37, _, _, _, _, none⟩) _ rfl (by rfl) (fun W hW => by (go_simp; with_reducible rfl)) ?_
  simp only [Act.put, List.setIfInBounds_toArray, List.set_cons_zero, List.set_cons_succ]
  refine ord_take (o := ⟨some 39, _, _, _, _, none⟩) _ rfl (by rfl) (fun W hW => by (go_simp; with_reducible rfl)) ?_
  simp only [Act.put, List.setIfInBounds_toArray, List.set_cons_zero, List.set_cons_succ]
  refine ord_take (o := ⟨some 40, _, _, _, _, none⟩) _ rfl (by rfl) (fun W hW => by (go_simp; with_reducible rfl)) ?_
  simp only [Act.put, List.setIfInBounds_toArray, List.set_cons_zero, List.set_cons_succ]
  refine ord_take (o := ⟨some 41, _, _, _, _, none⟩) _ rfl (by rfl) (fun W hW => by (go_simp; with_reducible rfl)) ?_
  simp only [Act.put, List.setIfInBounds_toArray, List.set_cons_zero, List.set_cons_succ]
  refine ord_take (o := ⟨some 42, _, _, _, _, none⟩) _ rfl (by rfl) (fun W hW => by (go_simp; with_reducible rfl)) ?_
  simp only [Act.put, List.setIfInBounds_toArray, List.set_cons_zero, List.set_cons_succ]
  refine ord_take (o := ⟨some 43, _, _, _, _, none⟩) _ rfl (by rfl) (fun W hW => by (go_simp; with_reducible rfl)) ?_
  simp only [Act.put, List.setIfInBounds_toArray, List.set_cons_zero, List.set_cons_succ]
  refine ord_take (o := ⟨some 44, _, _, _, _, none⟩) _ rfl (by rfl) (fun W hW => by (go_simp; with_reducible rfl)) ?_
  simp only [Act.put, List.setIfInBounds_toArray, List.set_cons_zero, List.set_cons_succ]
  refine ord_take (o := ⟨some 45, _, _, _, _, none⟩) _ rfl (by rfl) (fun W hW => by (go_simp; with_reducible rfl)) ?_
  simp only [Act.put, List.setIfInBounds_toArray, List.set_cons_zero, List.set_cons_succ]
  refine ord_fork (oi := ⟨some 38, _, _, _, _, none⟩) (oj := ⟨some 46, _, _, _, _, none⟩) rfl rfl (by rfl) (by rfl) (fun K hK => ?_) (fun K hK => ?_)
  · go_simp
    refine hK _ _ hT ?_
    clear hK K
    refine ord_alone (o := ⟨some 46, _, _, _, _, none⟩) rfl (by rfl) (fun K hK => ?_)
    go_simp
    refine hK _ _ hT' ?_
    clear hK K
    refine ord_alone (o := ⟨some 47, _, _, _, _, none⟩) rfl (by rfl) (fun K hK => ?_)
    refine wp_append_sl (.tmp 38) (.tmp 46) 67 rfl 78 i0 (.agg #[.int .i64 0, .pointer none]) 2 16 Try.underlying67 hinf hz0 hz1 hz2 rfl (by decide) (.slice ao mm cap) mm (mcs X.ns X.ms) rfl (HM.out ▸ h3.own) ⟨w2.heap.size, 0, none⟩ 1 1 [.int .i64 ref, .pointer ot] rfl rfl ?_ ?_ (by unfold maxLen; omega) (by omega) ?_
    · intro j u hj
      have hb := heap_alloc_new w2 (.cells #[.int .i64 ref, .pointer ot] 78)
      have hc := blk_cell hb j
      rw [Addr.add_lit, Nat.zero_add, hc]
      simpa using hj
    · intro u hu
      simp at hu
      rcases hu with rfl | rfl <;> rfl
    intro v' w3 hs3 hf3 hv3
    have hT3 := ((hf3.at h3.dl.blk (fun e => h3.nep _ e rfl)))
    have hT4 := blk_cell hT3 1
    have f7 := blk_free hT3 7
    have c73 := blk_cell hT3 7
    rw [HOT.out] at hT4
    simp at hT4 c73
    obtain ⟨ao', cap', rfl, _, _⟩ := hs3.shape
    have hmc : mcs X.ns X.ms ++ [.int .i64 ref, .pointer ot] = mcs X.ns (X.ms ++ [(ref, X.ns.length)]) := by rw [mcs_cat, ← HOT.out]; rfl
    have hpost := h3.set_ms hf3 (ms := X.ms ++ [(ref, X.ns.length)]) (mv' := .slice ao' (mm + 1) cap') (by rw [← hmc, List.length_append, HM.out]; exact hs3) (by
      intro m hm
      simp at hm
      rcases hm with hm | rfl
      · exact h3.mle m hm
      · exact Nat.le_refl _) (hv3.imp id (fun e b hb => by rw [e] at hb; cases hb; exact Nat.le_refl _))
    have hT5 : (w3.setCell ⟨p, 7, none⟩ (.slice ao' (mm + 1) cap')).cell? ⟨p, 1, none⟩ = some (.pointer ot) := by
      have := blk_cell (blk_set hT3 7 (.slice ao' (mm + 1) cap')) 1
      rw [HOT.out] at this
      simpa using this
    have HQ := Lib.hid hpost
    clear hs3 hf3 hv3 hmc hpost hT3 c7 hT h2 c7' h3
    refine hK _ _ hT4 ?_
    clear hK K
    simp only [Act.put, List.setIfInBounds_toArray, List.set_cons_zero, List.set_cons_succ]
    refine ord_take (o := ⟨some 48, _, _, _, _, none⟩) _ rfl (by rfl) (fun W hW => by (go_simp; with_reducible rfl)) ?_
    simp only [Act.put, List.setIfInBounds_toArray, List.set_cons_zero, List.set_cons_succ]
    refine ord_take (o := ⟨some 49, _, _, _, _, none⟩) _ rfl (by rfl) (fun W hW => by (go_simp; with_reducible rfl)) ?_
    simp only [Act.put, List.setIfInBounds_toArray, List.set_cons_zero, List.set_cons_succ]
    refine ord_alone (o := ⟨none, _, _, _, _, none⟩) rfl (by rfl) (fun K hK => ?_)
    go_simp
    refine hK _ _ hT5 ?_
    clear hK K
    refine ord_done ?_
    go_wp2_with fail
    go_ret
    exact ⟨rfl, (HQ.out.from (hf2.alloc _) (fun _ h => h.elim)).from (bel_fr0 hb) (fun _ h => h.elim)⟩
  · go_simp
    refine hK _ _ hT' ?_
    clear hK K
    refine ord_alone (o := ⟨some 38, _, _, _, _, none⟩) rfl (by rfl) (fun K hK => ?_)
    go_simp
    refine hK _ _ hT' ?_
    clear hK K
    refine ord_alone (o := ⟨some 47, _, _, _, _, none⟩) rfl (by rfl) (fun K hK => ?_)
    refine wp_append_sl (.tmp 38) (.tmp 46) 67 rfl 78 i0 (.agg #[.int .i64 0, .pointer none]) 2 16 Try.underlying67 hinf hz0 hz1 hz2 rfl (by decide) (.slice ao mm cap) mm (mcs X.ns X.ms) rfl (HM.out ▸ h3.own) ⟨w2.heap.size, 0, none⟩ 1 1 [.int .i64 ref, .pointer ot] rfl rfl ?_ ?_ (by unfold maxLen; omega) (by omega) ?_
    · intro j u hj
      have hb := heap_alloc_new w2 (.cells #[.int .i64 ref, .pointer ot] 78)
      have hc := blk_cell hb j
      rw [Addr.add_lit, Nat.zero_add, hc]
      simpa using hj
    · intro u hu
      simp at hu
      rcases hu with rfl | rfl <;> rfl
    intro v' w3 hs3 hf3 hv3
    have hT3 := ((hf3.at h3.dl.blk (fun e => h3.nep _ e rfl)))
    have hT4 := blk_cell hT3 1
    have f7 := blk_free hT3 7
    have c73 := blk_cell hT3 7
    rw [HOT.out] at hT4
    simp at hT4 c73
    obtain ⟨ao', cap', rfl, _, _⟩ := hs3.shape
    have hmc : mcs X.ns X.ms ++ [.int .i64 ref, .pointer ot] = mcs X.ns (X.ms ++ [(ref, X.ns.length)]) := by rw [mcs_cat, ← HOT.out]; rfl
    have hpost := h3.set_ms hf3 (ms := X.ms ++ [(ref, X.ns.length)]) (mv' := .slice ao' (mm + 1) cap') (by rw [← hmc, List.length_append, HM.out]; exact hs3) (by
      intro m hm
      simp at hm
      rcases hm with hm | rfl
      · exact h3.mle m hm
      · exact Nat.le_refl _) (hv3.imp id (fun e b hb => by rw [e] at hb; cases hb; exact Nat.le_refl _))
    have hT5 : (w3.setCell ⟨p, 7, none⟩ (.slice ao' (mm + 1) cap')).cell? ⟨p, 1, none⟩ = some (.pointer ot) := by
      have := blk_cell (blk_set hT3 7 (.slice ao' (mm + 1) cap')) 1
      rw [HOT.out] at this
      simpa using this
    have HQ := Lib.hid hpost
    clear hs3 hf3 hv3 hmc hpost hT3 c7 hT h2 c7' h3
    refine hK _ _ hT4 ?_
    clear hK K
    simp only [Act.put, List.setIfInBounds_toArray, List.set_cons_zero, List.set_cons_succ]
    refine ord_take (o := ⟨some 48, _, _, _, _, none⟩) _ rfl (by rfl) (fun W hW => by (go_simp; with_reducible rfl)) ?_
    simp only [Act.put, List.setIfInBounds_toArray, List.set_cons_zero, List.set_cons_succ]
    refine ord_take (o := ⟨some 49, _, _, _, _, none⟩) _ rfl (by rfl) (fun W hW => by (go_simp; with_reducible rfl)) ?_
    simp only [Act.put, List.setIfInBounds_toArray, List.set_cons_zero, List.set_cons_succ]
    refine ord_alone (o := ⟨none, _, _, _, _, none⟩) rfl (by rfl) (fun K hK => ?_)
    go_simp
    refine hK _ _ hT5 ?_
    clear hK K
    refine ord_done ?_
    go_wp2_with fail
    go_ret
    exact ⟨rfl, (HQ.out.from (hf2.alloc _) (fun _ h => h.elim)).from (bel_fr0 hb) (fun _ h => h.elim)⟩

theorem mark_join {X0 X : Bx} {p : Nat} {w w0 w1 w' : World} {ref : Int} {mv mv0 : Value} (hX : X0.first = X) (hns : X0.ns = X.ns) (hob : mv.ownBlock = mv0.ownBlock) (hf : Fr (mf p X0.ns mv0) w0 w1) (hb : Below w.heap.size w w0)
    (h : MPost p X.ns mv { X with ms := X.ms ++ [(ref, X.ns.length)] } w1 w') : MPost p X0.ns mv0 (X0.first.mark ref) w w' := by
  subst hX
  obtain ⟨mv', hb', hf', hg⟩ := h
  have e : ∀ k, mf p X0.first.ns mv k ↔ mf p X0.ns mv0 k := fun k => by unfold mf; rw [hob, ← hns]
  refine MPost.from (bel_fr0 hb) (fun _ h => h.elim) ⟨mv', hb', hf.trans (hf'.mono fun k hk => (e k).1 hk), fun k hk => ?_⟩
  rcases hg k hk with x | x
  · exact .inl ((e k).1 x)
  · exact .inr (Nat.le_trans hf.size x)

set_option maxHeartbeats 3200000 in
set_option maxRecDepth 100000 in
theorem Mark_over (p : Nat) (mv : Value) (X0 : Bx) (ref : Int) (w : World) (h : Mb w p mv X0) (h1 : 1 ≤ ref) (h2 : ref ≤ 281474976710656) (hl : 64 ≤ X0.ms.length) (hl2 : X0.ms.length ≤ 1000) (hp : place (·.1) ref X0.ms = -1) :
    Calls Try.prog 18 #[.pointer (some ⟨p, 0, none⟩), .int .i64 ref] w fun e w' => e = .returned (.int .i64 0) ∧ MPost p X0.ns mv (X0.first.mark ref) w w' := by
  obtain ⟨i0, hinf, hz0, hz1, hz2⟩ := info_parts Try.info78
  obtain ⟨g, off, cap0, cur, rfl, hcap, hmax, _, _, _⟩ := h.own.blk (by omega)
  unfold maxLen at hmax
  have HP := Lib.hid hp
  clear hp
  go_enter Try.func18, Try.ntmps18
  go_wp2_with fail
  refine (find_any p _ X0 ref _ h (by omega)).mono ?_
  rintro e w0 ⟨rfl, hb⟩
  rw [HP.out]
  have h0 := h.keep (bel_fr0 hb) (fun _ _ h => h)
  have c7 := blk_cell h0.dl.blk 7
  have f7 := blk_free h0.dl.blk 7
  simp at c7
  obtain ⟨A, hA⟩ : ∃ A : Addr, (if cap0 = 1 then (⟨g, off, none⟩ : Addr) else ⟨g, off + 2, none⟩) = A := ⟨_, rfl⟩
  have hA2 : (if cap0 = 1 then some (⟨g, off, none⟩ : Addr) else some ⟨g, off + 2, none⟩) = some A := by rw [← hA]; split <;> rfl
  have hsd := Sl.drop h0.own (k := 1) (by omega)
  rw [show (1 * 2 : Nat) = 2 from rfl, hA, mcs_drop X0.ns X0.ms 1] at hsd
  have hob : (Value.slice (some A) (X0.ms.length - 1) (cap0 - 1)).ownBlock = (Value.slice (some ⟨g, off, none⟩) X0.ms.length cap0).ownBlock := by rw [← hA]; split <;> rfl
  have hX1 := h0.put_ms (Fr.refl _ _) (ms := X0.ms.drop 1) (mv' := .slice (some A) (X0.ms.length - 1) (cap0 - 1)) (by rw [List.length_drop]; exact hsd) (fun m hm => h0.mle m (List.mem_of_mem_drop hm))
  have hfX : Fr (mf p X0.ns (.slice (some ⟨g, off, none⟩) X0.ms.length cap0)) w0 (w0.setCell ⟨p, 7, none⟩ (.slice (some A) (X0.ms.length - 1) (cap0 - 1))) := setCell_p (Fr.refl _ _) 7 _
  go_upto_region 9 with fail
  generalize w0.setCell ⟨p, 7, none⟩ (.slice (some A) (X0.ms.length - 1) (cap0 - 1)) = w1 at hX1 hfX ⊢
  obtain ⟨mm, hmm⟩ : ∃ mm, X0.ms.length - 1 = mm := ⟨_, rfl⟩
  obtain ⟨X, hX⟩ : ∃ X, X0.first = X := ⟨_, rfl⟩
  have HM := Lib.hid (show X.ms.length = mm by rw [← hX]; simp [Bx.first]; omega)
  have hns : X0.ns = X.ns := by rw [← hX]; rfl
  have h1 : Mb w1 p (.slice (some A) mm (cap0 - 1)) X := by rw [← hX, ← hmm]; exact hX1
  rw [hmm]
  have hobm : (Value.slice (some A) mm (cap0 - 1)).ownBlock = (Value.slice (some ⟨g, off, none⟩) X0.ms.length cap0).ownBlock := by rw [← hmm]; exact hob
  have hcapm : mm ≤ cap0 - 1 := by omega
  have HX := Lib.hid hX
  have HNS := Lib.hid hns
  have HOB := Lib.hid hobm
  have HFX := Lib.hid hfX
  obtain ⟨ao, hao⟩ : ∃ ao, some A = ao := ⟨_, rfl⟩
  obtain ⟨cap, hcc⟩ : ∃ cap, cap0 - 1 = cap := ⟨_, rfl⟩
  rw [hao, hcc] at h1 HOB ⊢
  have hml : mm ≤ 1000 := by omega
  have hcap1 : cap ≤ 2 ^ 63 - 1 := by omega
  clear hX1 hfX hob hobm hsd hA hA2 hX hns hmm c7 f7 hao
  have hT : w1.drew.cell? ⟨p, 1, none⟩ = some (ptr (pos X.ns X.ns.length)) := h1.tail
  obtain ⟨ot, hot⟩ : ∃ o, ptr (pos X.ns X.ns.length) = .pointer o := ⟨_, ptr_shape _⟩
  rw [hot] at hT
  have HOT := Lib.hid hot
  have h2 : Mb w1.drew p (.slice ao mm cap) X := h1.keep ((Fr.refl (fun _ => False) w1).drew) (fun _ _ h => h)
  have hf2 : Fr (fun _ => False) w1 w1.drew := (Fr.refl _ w1).drew
  refine wp_region_ord (Ord.take 0 (.take 1 (.take 2 (.take 3 (.take 5 (.take 6 (.take 7 (.take 8 (.take 9 (.take 10 (.take 11 (.fork 4 12 (.alone 12 (.alone 13 (.take 14 (.take 15 (.alone 16 .done))))) (.alone 4 (.alone 13 (.take 14 (.take 15 (.alone 16 .done)))))))))))))))))
    (fun W => W.cell? ⟨p, 1, none⟩ = some (.pointer ot)) (by kernel_rfl) (by kernel_rfl) (by kernel_rfl) (fun c a d v w h => by cases d <;> exact h) hT ?_
  generalize w1.drew = w2 at hT h2 hf2 ⊢
  clear hot h1
  have c7 := blk_cell h2.dl.blk 7
  simp at c7
  have h3 : Mb (w2.alloc (.cells #[.int .i64 ref, .pointer ot] 78)) p (.slice ao mm cap) X := h2.keep ((Fr.refl (fun _ => False) w2).alloc _) (fun _ _ h => h)
  have c7' := blk_cell h3.dl.blk 7
  have hT' := h3.tail
  rw [HOT.out] at hT'
  simp at c7'
  refine ord_take (o := ⟨some 34, _, _, _, _, none⟩) _ rfl (by rfl) (fun W hW => by (go_simp; with_reducible rfl)) ?_
  simp only [Act.put, List.setIfInBounds_toArray, List.set_cons_zero, List.set_cons_succ]
  refine ord_take (o := ⟨some 35, _, _, _, _, none⟩) _ rfl (by rfl) (fun W hW => by (go_simp; with_reducible rfl)) ?_
  simp only [Act.put, List.setIfInBounds_toArray, List.set_cons_zero, List.set_cons_succ]
  refine ord_take (o := ⟨some 36, _, _, _, _, none⟩) _ rfl (by rfl) (fun W hW => by (go_simp; with_reducible rfl)) ?_
  simp only [Act.put, List.setIfInBounds_toArray, List.set_cons_zero, List.set_cons_succ]
  refine ord_take (o := ⟨some 37, _, _, _, _, none⟩) _ rfl (by rfl) (fun W hW => by (go_simp; with_reducible rfl)) ?_
  simp only [Act.put, List.setIfInBounds_toArray, List.set_cons_zero, List.set_cons_succ]
  refine ord_take (o := ⟨some 39, _, _, _, _, none⟩) _ rfl (by rfl) (fun W hW => by (go_simp; with_reducible rfl)) ?_
  simp only [Act.put, List.setIfInBounds_toArray, List.set_cons_zero, List.set_cons_succ]
  refine ord_take (o := ⟨some 40, _, _, _, _, none⟩) _ rfl (by rfl) (fun W hW => by (go_simp; with_reducible rfl)) ?_
  simp only [Act.put, List.setIfInBounds_toArray, List.set_cons_zero, List.set_cons_succ]
  refine ord_take (o := ⟨some 41, _, _, _, _, none⟩) _ rfl (by rfl) (fun W hW => by (go_simp; with_reducible rfl)) ?_
  simp only [Act.put, List.setIfInBounds_toArray, List.set_cons_zero, List.set_cons_succ]
  refine ord_take (o := ⟨some 42, _, _, _, _, none⟩) _ rfl (by rfl) (fun W hW => by (go_simp; with_reducible rfl)) ?_
  simp only [Act.put, List.setIfInBounds_toArray, List.set_cons_zero, List.set_cons_succ]
  refine ord_take (o := ⟨some 43, _, _, _, _, none⟩) _ rfl (by rfl) (fun W hW => by (go_simp; with_reducible rfl)) ?_
  simp only [Act.put, List.setIfInBounds_toArray, List.set_cons_zero, List.set_cons_succ]
  refine ord_take (o := ⟨some 44, _, _, _, _, none⟩) _ rfl (by rfl) (fun W hW => by (go_simp; with_reducible rfl)) ?_
  simp only [Act.put, List.setIfInBounds_toArray, List.set_cons_zero, List.set_cons_succ]
  refine ord_take (o := ⟨some 45, _, _, _, _, none⟩) _ rfl (by rfl) (fun W hW => by (go_simp; with_reducible rfl)) ?_
  simp only [Act.put, List.setIfInBounds_toArray, List.set_cons_zero, List.set_cons_succ]
  refine ord_fork (oi := ⟨some 38, _, _, _, _, none⟩) (oj := ⟨some 46, _, _, _, _, none⟩) rfl rfl (by rfl) (by rfl) (fun K hK => ?_) (fun K hK => ?_)
  · go_simp
    refine hK _ _ hT ?_
    clear hK K
    refine ord_alone (o := ⟨some 46, _, _, _, _, none⟩) rfl (by rfl) (fun K hK => ?_)
    go_simp
    refine hK _ _ hT' ?_
    clear hK K
    refine ord_alone (o := ⟨some 47, _, _, _, _, none⟩) rfl (by rfl) (fun K hK => ?_)
    refine wp_append_sl (.tmp 38) (.tmp 46) 67 rfl 78 i0 (.agg #[.int .i64 0, .pointer none]) 2 16 Try.underlying67 hinf hz0 hz1 hz2 rfl (by decide) (.slice ao mm cap) mm (mcs X.ns X.ms) rfl (HM.out ▸ h3.own) ⟨w2.heap.size, 0, none⟩ 1 1 [.int .i64 ref, .pointer ot] rfl rfl ?_ ?_ (by unfold maxLen; omega) (by omega) ?_
    · intro j u hj
      have hb := heap_alloc_new w2 (.cells #[.int .i64 ref, .pointer ot] 78)
      have hc := blk_cell hb j
      rw [Addr.add_lit, Nat.zero_add, hc]
      simpa using hj
    · intro u hu
      simp at hu
      rcases hu with rfl | rfl <;> rfl
    intro v' w3 hs3 hf3 hv3
    have hT3 := ((hf3.at h3.dl.blk (fun e => h3.nep _ e rfl)))
    have hT4 := blk_cell hT3 1
    have f7 := blk_free hT3 7
    have c73 := blk_cell hT3 7
    rw [HOT.out] at hT4
    simp at hT4 c73
    obtain ⟨ao', cap', rfl, _, _⟩ := hs3.shape
    have hmc : mcs X.ns X.ms ++ [.int .i64 ref, .pointer ot] = mcs X.ns (X.ms ++ [(ref, X.ns.length)]) := by rw [mcs_cat, ← HOT.out]; rfl
    have hpost := h3.set_ms hf3 (ms := X.ms ++ [(ref, X.ns.length)]) (mv' := .slice ao' (mm + 1) cap') (by rw [← hmc, List.length_append, HM.out]; exact hs3) (by
      intro m hm
      simp at hm
      rcases hm with hm | rfl
      · exact h3.mle m hm
      · exact Nat.le_refl _) (hv3.imp id (fun e b hb => by rw [e] at hb; cases hb; exact Nat.le_refl _))
    have hT5 : (w3.setCell ⟨p, 7, none⟩ (.slice ao' (mm + 1) cap')).cell? ⟨p, 1, none⟩ = some (.pointer ot) := by
      have := blk_cell (blk_set hT3 7 (.slice ao' (mm + 1) cap')) 1
      rw [HOT.out] at this
      simpa using this
    have HQ := Lib.hid hpost
    clear hs3 hf3 hv3 hmc hpost hT3 c7 hT h2 c7' h3
    refine hK _ _ hT4 ?_
    clear hK K
    simp only [Act.put, List.setIfInBounds_toArray, List.set_cons_zero, List.set_cons_succ]
    refine ord_take (o := ⟨some 48, _, _, _, _, none⟩) _ rfl (by rfl) (fun W hW => by (go_simp; with_reducible rfl)) ?_
    simp only [Act.put, List.setIfInBounds_toArray, List.set_cons_zero, List.set_cons_succ]
    refine ord_take (o := ⟨some 49, _, _, _, _, none⟩) _ rfl (by rfl) (fun W hW => by (go_simp; with_reducible rfl)) ?_
    simp only [Act.put, List.setIfInBounds_toArray, List.set_cons_zero, List.set_cons_succ]
    refine ord_alone (o := ⟨none, _, _, _, _, none⟩) rfl (by rfl) (fun K hK => ?_)
    go_simp
    refine hK _ _ hT5 ?_
    clear hK K
    refine ord_done ?_
    go_wp2_with fail
    go_ret
    exact ⟨rfl, mark_join HX.out HNS.out HOB.out HFX.out hb (HQ.out.from (hf2.alloc _) (fun _ h => h.elim))⟩
  · go_simp
    refine hK _ _ hT' ?_
    clear hK K
    refine ord_alone (o := ⟨some 38, _, _, _, _, none⟩) rfl (by rfl) (fun K hK => ?_)
    go_simp
    refine hK _ _ hT' ?_
    clear hK K
    refine ord_alone (o := ⟨some 47, _, _, _, _, none⟩) rfl (by rfl) (fun K hK => ?_)
    refine wp_append_sl (.tmp 38) (.tmp 46) 67 rfl 78 i0 (.agg #[.int .i64 0, .pointer none]) 2 16 Try.underlying67 hinf hz0 hz1 hz2 rfl (by decide) (.slice ao mm cap) mm (mcs X.ns X.ms) rfl (HM.out ▸ h3.own) ⟨w2.heap.size, 0, none⟩ 1 1 [.int .i64 ref, .pointer ot] rfl rfl ?_ ?_ (by unfold maxLen; omega) (by omega) ?_
    · intro j u hj
      have hb := heap_alloc_new w2 (.cells #[.int .i64 ref, .pointer ot] 78)
      have hc := blk_cell hb j
      rw [Addr.add_lit, Nat.zero_add, hc]
      simpa using hj
    · intro u hu
      simp at hu
      rcases hu with rfl | rfl <;> rfl
    intro v' w3 hs3 hf3 hv3
    have hT3 := ((hf3.at h3.dl.blk (fun e => h3.nep _ e rfl)))
    have hT4 := blk_cell hT3 1
    have f7 := blk_free hT3 7
    have c73 := blk_cell hT3 7
    rw [HOT.out] at hT4
    simp at hT4 c73
    obtain ⟨ao', cap', rfl, _, _⟩ := hs3.shape
    have hmc : mcs X.ns X.ms ++ [.int .i64 ref, .pointer ot] = mcs X.ns (X.ms ++ [(ref, X.ns.length)]) := by rw [mcs_cat, ← HOT.out]; rfl
    have hpost := h3.set_ms hf3 (ms := X.ms ++ [(ref, X.ns.length)]) (mv' := .slice ao' (mm + 1) cap') (by rw [← hmc, List.length_append, HM.out]; exact hs3) (by
      intro m hm
      simp at hm
      rcases hm with hm | rfl
      · exact h3.mle m hm
      · exact Nat.le_refl _) (hv3.imp id (fun e b hb => by rw [e] at hb; cases hb; exact Nat.le_refl _))
    have hT5 : (w3.setCell ⟨p, 7, none⟩ (.slice ao' (mm + 1) cap')).cell? ⟨p, 1, none⟩ = some (.pointer ot) := by
      have := blk_cell (blk_set hT3 7 (.slice ao' (mm + 1) cap')) 1
      rw [HOT.out] at this
      simpa using this
    have HQ := Lib.hid hpost
    clear hs3 hf3 hv3 hmc hpost hT3 c7 hT h2 c7' h3
    refine hK _ _ hT4 ?_
    clear hK K
    simp only [Act.put, List.setIfInBounds_toArray, List.set_cons_zero, List.set_cons_succ]
    refine ord_take (o := ⟨some 48, _, _, _, _, none⟩) _ rfl (by rfl) (fun W hW => by (go_simp; with_reducible rfl)) ?_
    simp only [Act.put, List.setIfInBounds_toArray, List.set_cons_zero, List.set_cons_succ]
    refine ord_take (o := ⟨some 49, _, _, _, _, none⟩) _ rfl (by rfl) (fun W hW => by (go_simp; with_reducible rfl)) ?_
    simp only [Act.put, List.setIfInBounds_toArray, List.set_cons_zero, List.set_cons_succ]
    refine ord_alone (o := ⟨none, _, _, _, _, none⟩) rfl (by rfl) (fun K hK => ?_)
    go_simp
    refine hK _ _ hT5 ?_
    clear hK K
    refine ord_done ?_
    go_wp2_with fail
    go_ret
    exact ⟨rfl, mark_join HX.out HNS.out HOB.out HFX.out hb (HQ.out.from (hf2.alloc _) (fun _ h => h.elim))⟩
end Go.Proofs.Ytgijaehmffojhaa
