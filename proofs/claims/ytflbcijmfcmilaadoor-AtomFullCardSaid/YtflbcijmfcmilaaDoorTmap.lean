/- The table's map: each atom's number. -/
import Derived.Test.YtflbcijmfcmilaaDoorWhole
import Derived.Maps.OwnSet
import Derived.Maps.OwnOps
import Derived.Maps.Views
import Derived.Maps.Keyed
import Derived.StringKeys
namespace Go.Proofs.YtflbcijmfcmilaaDoor
open Go.RowKit
open Go.Maps

theorem law9 : Keyed Tryd.prog 9 := string_keyed Tryd.underlying9
theorem zero3 (w : World) : (zeroValue 3).run Tryd.prog w = .ok (.int .i64 0) w := by kernel_rfl

/-- What an element reads as: itself. -/
def RV (v : Value) : Option (DataW Value × List MemPlace) := some (.held v, [])

/-- Where a text stands in a list. -/
def placeL (L : List ByteArray) (s : ByteArray) : Option Nat := L.findIdx? fun x => decide (x = s)

/-- The map at block b tells the places of L, counted from 1. -/
def Tm (w : World) (b : Nat) (L : List ByteArray) : Prop :=
  ∃ D, w.ownsMap Tryd.prog 9 RV b (Maps.size D) D ∧ Maps.size D = L.length ∧ ∀ s : ByteArray, Maps.has D (.string s.data.toList) = (placeL L s).isSome ∧
    ∀ i, placeL L s = some i → D.atKey (.string s.data.toList) (.held (.int .i64 0)) = .held (.int .i64 ((i + 1 : Nat) : Int))

theorem tight {P : Program} {k : TypeId} {H : Type} {R : Value → Option (DataW H × List MemPlace)} {w : World} {b n : Nat} {D : DataW H} (h : w.ownsMap P k R b n D) : w.ownsMap P k R b (Maps.size D) D := by
  obtain ⟨es, clock, hb, F, hs, hD⟩ := h
  refine ⟨es, clock, hb, F, ?_, hD⟩
  rw [hD, size_eq, length_sorted]
  simp

theorem Tm.made (w : World) : Tm (w.alloc (.map #[] 0)) w.heap.size [] :=
  ⟨.map [], tight (World.ownsMap_made w _ _ _), by simp [Maps.size], fun s => ⟨by simp [Maps.has, placeL], fun i h => by simp [placeL] at h⟩⟩

theorem Tm.keep {w w' : World} {b : Nat} {L : List ByteArray} (h : Tm w b L) (hk : w'.heap[b]? = w.heap[b]?) : Tm w' b L := by
  obtain ⟨D, ⟨es, clock, hb, r⟩, h2⟩ := h
  exact ⟨D, ⟨es, clock, by rw [hk]; exact hb, r⟩, h2⟩

theorem Tm.look {w : World} {b : Nat} {L : List ByteArray} (h : Tm w b L) (s : ByteArray) (hs : s.size ≤ maxLen) :
    ∃ v, (Instr.lookup 73 (.map (some b)) (.string s) true).run Tryd.prog w = .ok (.tuple #[v, .bool (placeL L s).isSome]) w ∧ ∀ i, placeL L s = some i → v = .int .i64 ((i + 1 : Nat) : Int) := by
  obtain ⟨D, hown, _, hv⟩ := h
  obtain ⟨v, ps, hrun, hR⟩ := hown.look_ok law9 Tryd.underlying73 (zero3 w) (zd := .held (.int .i64 0)) (zp := []) rfl (Go.WideMaps.keyOf_string_mk Tryd.underlying9 hs)
  rw [(hv s).1] at hrun
  refine ⟨v, hrun, fun i hi => ?_⟩
  rw [(hv s).2 i hi] at hR
  unfold RV at hR
  simp at hR
  exact hR.1

theorem place_app (L : List ByteArray) (s t : ByteArray) (hn : placeL L s = none) : placeL (L ++ [s]) t = if t = s then some L.length else placeL L t := by
  unfold placeL at *
  rw [List.findIdx?_append]
  by_cases h : t = s
  · subst h
    rw [hn, if_pos rfl]
    simp
  · rw [if_neg h]
    have : ([s].findIdx? fun x => decide (x = t)) = none := by simp; exact fun e => h e.symm
    rw [this]
    simp

theorem lit_ne {s t : ByteArray} (h : t ≠ s) : (Lit.string t.data.toList) ≠ .string s.data.toList := by
  intro e
  apply h
  apply ByteArray.ext
  exact Array.toList_inj.1 (by simpa using e)

theorem Tm.store {w : World} {b : Nat} {L : List ByteArray} (h : Tm w b L) (s : ByteArray) (hs : s.size ≤ maxLen) (hn : placeL L s = none) (hL : L.length < maxLen) :
    ∃ w', (Instr.mapUpdate 73 (.map (some b)) (.string s) (.int .i64 ((L.length + 1 : Nat) : Int))).run Tryd.prog w = .ok () w' ∧ Tm w' b (L ++ [s]) ∧ w.grownBy w' (some b) := by
  obtain ⟨D, hown, hsz, hv⟩ := h
  have hkey := Go.WideMaps.keyOf_string_mk (P := Tryd.prog) (k := 9) Tryd.underlying9 hs
  have htidy := hown.tidy law9
  obtain ⟨w', hrun, hown', hg⟩ := hown.update law9 Tryd.underlying73 (by omega) hkey (val := .int .i64 ((L.length + 1 : Nat) : Int)) (d := .held (.int .i64 ((L.length + 1 : Nat) : Int))) (ps := []) rfl
  refine ⟨w', hrun, ⟨_, tight hown', ?_, fun t => ?_⟩, hg⟩
  · rw [size_put htidy, (hv s).1, hn, hsz]
    simp
  · rw [place_app L s t hn]
    by_cases ht : t = s
    · subst ht
      rw [if_pos rfl]
      refine ⟨by rw [has_put_same htidy.isMap (law9.key hkey)]; rfl, fun i hi => ?_⟩
      cases hi
      exact atKey_put_same htidy.isMap (law9.key hkey) _ _
    · rw [if_neg ht]
      refine ⟨by rw [has_put_other (lit_ne ht)]; exact (hv t).1, fun i hi => ?_⟩
      rw [atKey_put_other (lit_ne ht)]
      exact (hv t).2 i hi
end Go.Proofs.YtflbcijmfcmilaaDoor
