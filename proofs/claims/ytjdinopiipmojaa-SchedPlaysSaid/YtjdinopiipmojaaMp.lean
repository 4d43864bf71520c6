/- The queue's map: its four keys by their elements' values. -/
import Derived.Test.YtjdinopiipmojaaBase
import Derived.Test.YtjdinopiipmojaaRows
import Derived.Maps.OwnSet
import Derived.Maps.OwnOps
import Derived.Maps.Views
import Derived.WalkKit
namespace Go.Proofs.Ytjdinopiipmojaa
open Go.RowKit
open Go.Maps

theorem law3 : Keyed Try.prog 3 := int_keyed Try.underlying3
theorem zero39 (w : World) : (zeroValue 39).run Try.prog w = .ok (.slice none 0 0) w := by kernel_rfl

/-- What an element reads as: itself. -/
def RV (v : Value) : Option (DataW Value × List MemPlace) := some (.held v, [])

def miss (D : DataW Value) (k : Int) : Nat := if Maps.has D (.int .i64 k) = true then 0 else 1

def Mp (w : World) (b : Nat) (vs : Int → Value) : Prop :=
  ∃ D, w.ownsMap Try.prog 3 RV b (Maps.size D) D ∧ Maps.size D + miss D 1 + miss D 2 + miss D 3 + miss D 4 = 4 ∧ ∀ k : Int, 1 ≤ k → k ≤ 4 → D.atKey (.int .i64 k) (.held (.slice none 0 0)) = .held (vs k)

theorem tight {P : Program} {k : TypeId} {H : Type} {R : Value → Option (DataW H × List MemPlace)} {w : World} {b n : Nat} {D : DataW H} (h : w.ownsMap P k R b n D) : w.ownsMap P k R b (Maps.size D) D := by
  obtain ⟨es, clock, hb, F, hs, hD⟩ := h
  refine ⟨es, clock, hb, F, ?_, hD⟩
  rw [hD, size_eq, length_sorted]
  simp

theorem Mp.made (w : World) : Mp (w.alloc (.map #[] 0)) w.heap.size (fun _ => .slice none 0 0) :=
  ⟨.map [], tight (World.ownsMap_made w _ _ _), by simp [Maps.size, miss, Maps.has], fun k _ _ => by simp [DataW.atKey]⟩

theorem Mp.lt {w : World} {b : Nat} {vs : Int → Value} (h : Mp w b vs) : b < w.heap.size := by
  obtain ⟨D, h, _⟩ := h
  exact h.lt

theorem Mp.ne {w : World} {b : Nat} {vs : Int → Value} (h : Mp w b vs) {p : Nat} {c : Array Value} {t : TypeId} {f : Nat × Nat} (hp : w.heap[p]? = some (.cells c t f)) : p ≠ b := by
  obtain ⟨D, ⟨es, clock, hb, _⟩, _⟩ := h
  rintro rfl
  rw [hb] at hp
  cases hp

theorem Mp.keep {w w' : World} {b : Nat} {vs : Int → Value} (h : Mp w b vs) (hk : w'.heap[b]? = w.heap[b]?) : Mp w' b vs := by
  obtain ⟨D, ⟨es, clock, hb, r⟩, h2⟩ := h
  exact ⟨D, ⟨es, clock, by rw [hk]; exact hb, r⟩, h2⟩

theorem Mp.look {w : World} {b : Nat} {vs : Int → Value} (h : Mp w b vs) (k : Int) (h1 : 1 ≤ k) (h4 : k ≤ 4) : (Instr.lookup 54 (.map (some b)) (.int .i64 k) false).run Try.prog w = .ok (vs k) w := by
  obtain ⟨D, hown, _, hv⟩ := h
  obtain ⟨v, ps, hrun, hR⟩ := hown.lookup law3 Try.underlying54 (zero39 w) (zd := .held (.slice none 0 0)) (zp := []) rfl (keyOf_int_mk Try.underlying3 (show (Lit.int .i64 k).wf = true from WalkArith.wf_i64 (by omega)))
  rw [hv k h1 h4] at hR
  unfold RV at hR
  simp at hR
  rw [hrun, hR.1]

def setAt (vs : Int → Value) (k : Int) (v : Value) : Int → Value := fun j => if j = k then v else vs j

theorem Mp.store {w : World} {b : Nat} {vs : Int → Value} (h : Mp w b vs) (k : Int) (h1 : 1 ≤ k) (h4 : k ≤ 4) (v : Value) :
    ∃ w', (Instr.mapUpdate 54 (.map (some b)) (.int .i64 k) v).run Try.prog w = .ok () w' ∧ Mp w' b (setAt vs k v) ∧ w.grownBy w' (some b) := by
  obtain ⟨D, hown, hsz, hv⟩ := h
  have hw : (Lit.int .i64 k).wf = true := WalkArith.wf_i64 (by omega)
  have hkey := keyOf_int_mk (P := Try.prog) (k := 3) (q := .i64) (a := k) Try.underlying3 hw
  have htidy := hown.tidy law3
  obtain ⟨w', hrun, hown', hg⟩ := hown.update law3 Try.underlying54 (by unfold maxLen; omega) hkey (val := v) (d := .held v) (ps := []) rfl
  refine ⟨w', hrun, ⟨_, tight hown', ?_, fun j j1 j4 => ?_⟩, hg⟩
  · have hne : ∀ j, j ≠ k → miss (D.put (.int .i64 k) (.held v)) j = miss D j := fun j hj => by
      unfold miss
      rw [has_put_other (by simpa using hj)]
    have hk0 : miss (D.put (.int .i64 k) (.held v)) k = 0 := by
      unfold miss
      rw [has_put_same htidy.isMap (law3.key hkey)]
      rfl
    have hs : Maps.size (D.put (.int .i64 k) (.held v)) = Maps.size D + miss D k := by
      rw [size_put htidy]
      unfold miss
      split <;> simp
    have : k = 1 ∨ k = 2 ∨ k = 3 ∨ k = 4 := by omega
    rcases this with rfl | rfl | rfl | rfl
    · rw [hs, hk0, hne 2 (by omega), hne 3 (by omega), hne 4 (by omega)]; omega
    · rw [hs, hk0, hne 1 (by omega), hne 3 (by omega), hne 4 (by omega)]; omega
    · rw [hs, hk0, hne 1 (by omega), hne 2 (by omega), hne 4 (by omega)]; omega
    · rw [hs, hk0, hne 1 (by omega), hne 2 (by omega), hne 3 (by omega)]; omega
  · unfold setAt
    split
    · rename_i h; subst h
      exact atKey_put_same htidy.isMap (law3.key hkey) _ _
    · rename_i h
      rw [atKey_put_other (by simpa using h)]
      exact hv j j1 j4
end Go.Proofs.Ytjdinopiipmojaa
