/- Both tables side by side: what each call leaves of them. -/
import Derived.Test.YtflbcijmfcmilaaDoorPut
import Derived.Test.YtflbcijmfcmilaaDoorNil
namespace Go.Proofs.YtflbcijmfcmilaaDoor
open Go.RowKit

theorem new_any (w : World) : Calls Tryd.prog 25 #[] w fun e w' => e = .returned (.pointer (some ⟨w.heap.size + 1, 0, none⟩)) ∧ Tb w' (w.heap.size + 1) (.slice none 0 0) w.heap.size [] ∧ Below w.heap.size w w' := by
  have hmm := @run_makeMap Tryd.prog
  go_enter Tryd.func25, Tryd.ntmps25
  go_wp2_with fail
  go_ret
  refine ⟨by simp, ⟨?_, Sl.nil _ _ _, ?_⟩, ((Below.refl _ w).alloc (Nat.le_refl _) _).alloc (by simp) _⟩
  · simpa using heap_alloc_new (w.alloc (.map #[] 0)) (.cells #[.slice none 0 0, .map (some w.heap.size)] 75)
  · exact (Tm.made w).keep (Below.heap_alloc _ _ _ (by simp))

/-- The program's table (atoms L) and the document's (atoms M), both made since w0. -/
structure Tw (w0 w : World) (p b r : Nat) (sv sr : Value) (L M : List ByteArray) : Prop where
  tb : Tb w p sv b L
  rt : Rt w r sr M
  dis : ∀ k, sv.ownBlock = some k → sr.ownBlock ≠ some k
  nv : ∀ k, sv.ownBlock = some k → w0.heap.size ≤ k
  nr : ∀ k, sr.ownBlock = some k → w0.heap.size ≤ k
  bel : Below w0.heap.size w0 w
  hp : w0.heap.size ≤ p
  hb : w0.heap.size ≤ b
  hr : w0.heap.size ≤ r

section
variable {w0 w w' : World} {p b r : Nat} {sv sr : Value} {L M : List ByteArray}

theorem Tw.below (h : Tw w0 w p b r sv sr L M) (hb : Below w.heap.size w w') : Tw w0 w' p b r sv sr L M :=
  ⟨h.tb.below hb, h.rt.below hb, h.dis, h.nv, h.nr, h.bel.trans (hb.mono h.bel.size), h.hp, h.hb, h.hr⟩

theorem Tw.pr (h : Tw w0 w p b r sv sr L M) : p ≠ r := by
  intro e
  subst e
  have h1 := h.tb.blk
  rw [h.rt.blk] at h1
  simp at h1

theorem Tw.put (h : Tw w0 w p b r sv sr L M) {sv' : Value} {L' : List ByteArray} (ht : Tb w' p sv' b L') (hf : Fr (fun k => k = p ∨ k = b ∨ sv.ownBlock = some k) w w')
    (hn : ∀ k, sv'.ownBlock = some k → sv.ownBlock = some k ∨ w.heap.size ≤ k) : Tw w0 w' p b r sv' sr L' M := by
  have hpr := h.pr
  have hz := h.bel.size
  refine ⟨ht, ⟨hf.at h.rt.blk ?_, hf.sl h.rt.sl fun k hk => ?_⟩, fun k hk hk' => ?_, fun k hk => ?_, h.nr, h.bel.trans (hf.below hz fun k hk => ?_), h.hp, h.hb, h.hr⟩
  · rintro (e | e | e)
    · exact hpr e.symm
    · exact h.tb.mp.ne h.rt.blk e.symm
    · exact h.tb.sl.ne h.rt.blk (by decide) _ e rfl
  · rintro (e | e | e)
    · exact h.rt.sl.ne h.tb.blk (by decide) _ hk e
    · exact h.tb.mp.sl h.rt.sl _ hk e.symm
    · exact h.dis _ e hk
  · rcases hn k hk with e | e
    · exact h.dis k e hk'
    · have := h.rt.sl.lt k hk'; omega
  · rcases hn k hk with e | e
    · exact h.nv k e
    · omega
  · rcases hk with rfl | rfl | e
    · exact h.hp
    · exact h.hb
    · exact h.nv k e

theorem Tw.rput (h : Tw w0 w p b r sv sr L M) {sr' : Value} {M' : List ByteArray} (ht : Rt w' r sr' M') (hf : Fr (fun k => k = r ∨ sr.ownBlock = some k) w w')
    (hn : ∀ k, sr'.ownBlock = some k → sr.ownBlock = some k ∨ w.heap.size ≤ k) : Tw w0 w' p b r sv sr' L M' := by
  have hpr := h.pr
  have hz := h.bel.size
  refine ⟨⟨hf.at h.tb.blk ?_, hf.sl h.tb.sl fun k hk => ?_, h.tb.mp.keep (hf.block b h.tb.mp.lt ?_)⟩, ht, fun k hk hk' => ?_, h.nv, fun k hk => ?_, h.bel.trans (hf.below hz fun k hk => ?_), h.hp, h.hb, h.hr⟩
  · rintro (e | e)
    · exact hpr e
    · exact h.rt.sl.ne h.tb.blk (by decide) _ e rfl
  · rintro (e | e)
    · exact h.tb.sl.ne h.rt.blk (by decide) _ hk e
    · exact h.dis _ hk e
  · rintro (e | e)
    · exact h.tb.mp.ne h.rt.blk e
    · exact h.tb.mp.sl h.rt.sl _ e rfl
  · rcases hn k hk' with e | e
    · exact h.dis k hk e
    · have := h.tb.sl.lt k hk; omega
  · rcases hn k hk with e | e
    · exact h.nr k e
    · omega
  · rcases hk with rfl | e
    · exact h.hr
    · exact h.nr k e

/-- Both tables tell the same. -/
theorem whole_any (hL : L.length ≤ 4096) (h : Tw w0 w p b r sv sr L L) :
    Calls Tryd.prog 30 #[.pointer (some ⟨p, 0, none⟩), .pointer (some ⟨r, 0, none⟩)] w fun e w' => e = .returned (.bool true) ∧ Below w.heap.size w w' :=
  callsIn_wide.1 (whole_gen 0 (some ⟨p, 0, none⟩) (fun W => Fr (fun _ => False) w W) r sr L (by omega) w (fun _ h => h)
    (fun W hW => by
      obtain ⟨ao, cap, hv, hc, hm⟩ := h.tb.sl.shape
      have c0 := blk_cell (hW.at h.tb.blk (fun h => h)) 0
      rw [hv] at c0
      exact len_some p ao L.length cap W (by simpa using c0))
    h.rt.blk h.rt.sl
    (fun W0 hf h3 h2 => tab_seq Fence.wide (Lib.hid rfl) trivial rfl _ _ _ _ p sv (.map (some b)) L (by omega) W0 h3 (hf.at h.tb.blk (fun h => h)) (hf.sl h.tb.sl (fun _ _ h => h)) h2
      (fun k hk => by have := h.tb.sl.lt k hk; omega)))
end

/-! ### What Put does to the list -/
theorem putN_len {L : List ByteArray} (h : L.length ≤ 4096) (s : ByteArray) : (putN L s).2.length ≤ 4096 := by
  unfold putN
  split
  · split
    · exact h
    · split
      · exact h
      · simp; omega
  · exact h

def okL (L : List ByteArray) : Prop := ∀ x ∈ L, rightL x.data.toList = true ∧ x.size ≤ maxLen

theorem putN_ok {L : List ByteArray} (h : okL L) {s : ByteArray} (hs : s.size ≤ maxLen) : okL (putN L s).2 := by
  unfold putN
  split
  · rename_i hr
    split
    · exact h
    · split
      · exact h
      · intro x hx
        rcases List.mem_append.1 hx with hx | hx
        · exact h x hx
        · obtain rfl := List.mem_singleton.1 hx
          exact ⟨hr, hs⟩
  · exact h

theorem putN_mem {L : List ByteArray} {s : ByteArray} (h : okL L) (hs : s ∈ L) : ∃ i, i < L.length ∧ putN L s = ((i + 1, 0), L) ∧ L[i]? = some s := by
  unfold putN
  rw [if_pos (h s hs).1]
  cases hp : placeL L s with
  | none =>
    unfold placeL at hp
    rw [List.findIdx?_eq_none_iff] at hp
    have := hp s hs
    simp at this
  | some i =>
    unfold placeL at hp
    rw [List.findIdx?_eq_some_iff_getElem] at hp
    obtain ⟨h1, h2, _⟩ := hp
    exact ⟨i, h1, rfl, by rw [List.getElem?_eq_getElem h1]; simpa using h2⟩

theorem nameV_at {L : List ByteArray} {i : Nat} {s : ByteArray} (h : L[i]? = some s) : nameV L ((i + 1 : Nat) : Int) = (s, 0) := by
  have := (List.getElem?_eq_some_iff.1 h).1
  unfold nameV
  rw [if_neg (by omega), show (((i + 1 : Nat) : Int) - 1).toNat = i by omega, h]
end Go.Proofs.YtflbcijmfcmilaaDoor
