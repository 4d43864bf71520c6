/- Arguments that lead into memory: what their reading tells of the cells; what the reach tells of their sizes. -/
import Derived.Test.YtkhjdcnlpablkaaDoorBase
import Derived.Deep.Slices
import Derived.SizedLaws
namespace Go.Proofs.YtkhjdcnlpablkaaDoor
open Go.RowKit

/-- All that a datum holds lies within the reach. -/
def Fits {H : Type} (P : Program) (t : TypeId) (d : DataW H) : Prop := ∀ n ∈ d.weights P t, n ≤ reachBytes

theorem weightsAll_mem {H : Type} {P : Program} {e : TypeId} : ∀ {ds : List (DataW H)} {d : DataW H}, d ∈ ds → ∀ n ∈ d.weights P e, n ∈ DataW.weightsAll P e ds
  | x :: r, d, hd, n, hn => by
    simp only [DataW.weightsAll, List.mem_append]
    cases hd with
    | head => exact .inl hn
    | tail _ h => exact .inr (weightsAll_mem h n hn)

theorem Fits.elem {H : Type} {P : Program} {t e : TypeId} {elems spare : List (DataW H)} (ht : P.underlying t = some (.slice e)) (h : Fits P t (.slice elems spare)) {d : DataW H} (hd : d ∈ elems) : Fits P e d :=
  fun n hn => h n (by simp only [DataW.weights, ht, List.mem_cons, List.mem_append]; exact .inr (.inl (weightsAll_mem hd n hn)))

theorem Fits.slice {H : Type} {P : Program} {t e : TypeId} {elems spare : List (DataW H)} (ht : P.underlying t = some (.slice e)) (h : Fits P t (.slice elems spare)) : (elems.length + spare.length) * P.bytesOf e ≤ reachBytes :=
  h _ (by simp [DataW.weights, ht])

theorem Fits.agg {H : Type} {P : Program} {t : TypeId} {fs : Array Field} {parts : List (DataW H)} (ht : P.underlying t = some (.struct fs)) (h : Fits P t (.agg parts)) {j : Nat} {f : Field} {d : DataW H} (hf : fs[j]? = some f) (hd : parts[j]? = some d) : Fits P f.type d :=
  fun n hn => h n (by
    simp only [DataW.weights, ht]
    exact DataW.weights_mem_each (j := j) (by simp [hf]) hd n hn)

theorem Fits.of {H : Type} {P : Program} {ts : List TypeId} {ds : List (DataW H)} (h : (DataW.weightsEach P ts ds).all (· ≤ reachBytes) = true) {j : Nat} {t : TypeId} {d : DataW H} (ht : ts[j]? = some t) (hd : ds[j]? = some d) : Fits P t d :=
  fun n hn => by simpa using List.all_eq_true.1 h n (DataW.weights_mem_each ht hd n hn)

theorem list_choose {α β : Type} {p : α → β → Prop} : ∀ (xs : List α), (∀ x ∈ xs, ∃ y, p x y) → ∃ ys : List β, ys.length = xs.length ∧ ∀ (i : Nat) (x : α), xs[i]? = some x → ∃ y, ys[i]? = some y ∧ p x y
  | [], _ => ⟨[], rfl, by simp⟩
  | x :: xs, h => by
    obtain ⟨y, hy⟩ := h x (by simp)
    obtain ⟨ys, hl, hys⟩ := list_choose xs (fun z hz => h z (by simp [hz]))
    refine ⟨y :: ys, by simp [hl], fun i z hz => ?_⟩
    cases i with
    | zero => simp at hz; subst hz; exact ⟨y, by simp, hy⟩
    | succ i => simpa using hys i z (by simpa using hz)

theorem flat_length {α : Type} {size : Nat} : ∀ (xss : List (List α)), (∀ xs ∈ xss, xs.length = size) → xss.flatten.length = xss.length * size
  | [], _ => by simp
  | xs :: r, h => by
    have := flat_length r (fun y hy => h y (by simp [hy]))
    simp only [List.flatten_cons, List.length_append, List.length_cons, h xs (by simp), this]
    rw [Nat.add_mul]; omega

theorem flat_get {α : Type} {size : Nat} : ∀ (xss : List (List α)), (∀ xs ∈ xss, xs.length = size) → ∀ (i j : Nat) (xs : List α), xss[i]? = some xs → j < size → xss.flatten[i * size + j]? = xs[j]?
  | [], _, i, j, xs, h, _ => by simp at h
  | ys :: r, h, 0, j, xs, hx, hj => by
    simp at hx
    subst hx
    simp only [List.flatten_cons]
    rw [List.getElem?_append_left (by rw [h ys (by simp)]; omega)]
    congr 1
    omega
  | ys :: r, h, i + 1, j, xs, hx, hj => by
    simp only [List.flatten_cons]
    rw [List.getElem?_append_right (by rw [h ys (by simp), Nat.add_mul]; omega), h ys (by simp), Nat.add_mul, show i * size + 1 * size + j - size = i * size + j by omega]
    exact flat_get r (fun y hy => h y (by simp [hy])) i j xs (by simpa using hx) hj

section
variable {H : Type} {enc : TypeId × Value → H} {P : Program} {w : World}

theorem cells?_spot {base : Nat} {x : Addr} {n : Nat} {cs : List Value} (hn : 0 < n) (h : w.cells? base x n = some cs) : x.spot = none := by
  obtain ⟨_, hl, hc⟩ := World.cells?_some h
  have h0 := hc 0 hn
  rw [List.getElem?_eq_getElem (by omega)] at h0
  simp only [Addr.add, if_true, World.cell?] at h0
  cases hsp : x.spot with
  | none => rfl
  | some s => rw [hsp] at h0; split at h0 <;> simp at h0

/-- A SLICE THAT CAME IN: its elements' cells, row by row; each of them reads as an element. -/
theorem rd_slice {t e : TypeId} {fuel size : Nat} {cs : List Value} {d : DataW H} {ps : List MemPlace} (ht : P.underlying t = some (.slice e)) (hc : P.cellsOf e = size) (hsz : 0 < size)
    (h : DataW.trod enc P w 0 (fun _ => true) true fuel t cs = some (d, ps)) (hfit : Fits P t d) :
    ∃ (ao : Option Addr) (n cap : Nat) (xss : List (List Value)), cs = [.slice ao n cap] ∧ Rd w size (.slice ao n cap) n xss.flatten ∧ xss.length = n ∧ (∀ xs ∈ xss, xs.length = size) ∧ cap * P.bytesOf e ≤ reachBytes ∧
      ∀ xs ∈ xss, ∃ m d' ps', DataW.trod enc P w 0 (fun _ => true) true m e xs = some (d', ps') ∧ Fits P e d' := by
  subst hc
  rcases DataW.trod_slice ht h with ⟨rfl, hx⟩ | ⟨a, len, cap, elems, rest, n, _, rfl, hx, hb, hl, hm, hlen, hel, hsp, _⟩
  · exact ⟨none, 0, 0, [], rfl, (Sl.nil w 0 _).rd, rfl, by simp, by simp, by simp⟩
  · simp only [Prod.mk.injEq] at hx
    obtain ⟨rfl, rfl⟩ := hx
    have hr := (hsp rfl).1
    obtain ⟨xss, hxl, hxs⟩ := list_choose (α := Nat) (β := List Value) (p := fun i xs => w.cells? 0 (a.add (i * P.cellsOf e)) (P.cellsOf e) = some xs ∧ ∃ d' ps', DataW.trod enc P w 0 (fun _ => true) true n e xs = some (d', ps') ∧ Fits P e d') (List.range len) (by
      intro i hi
      have hi' : i < len := by simpa using hi
      have := hel i hi'
      rw [List.getElem?_eq_getElem (by omega)] at this
      obtain ⟨xs, h1, h2⟩ := Option.bind_eq_some_iff.1 this
      exact ⟨xs, h1, (elems[i]'(by omega)).1, (elems[i]'(by omega)).2, h2, hfit.elem ht (List.mem_map.2 ⟨elems[i]'(by omega), List.getElem_mem _, rfl⟩)⟩)
    rw [List.length_range] at hxl
    have hget : ∀ (i : Nat) (xs : List Value), xss[i]? = some xs → w.cells? 0 (a.add (i * P.cellsOf e)) (P.cellsOf e) = some xs ∧ ∃ d' ps', DataW.trod enc P w 0 (fun _ => true) true n e xs = some (d', ps') ∧ Fits P e d' := by
      intro i xs hi
      have hil := (List.getElem?_eq_some_iff.1 hi).1
      obtain ⟨ys, hy, hp⟩ := hxs i i (List.getElem?_range (by omega))
      rw [hi] at hy
      cases hy
      exact hp
    have hlen' : ∀ xs ∈ xss, xs.length = P.cellsOf e := by
      intro xs hx
      obtain ⟨i, hi, rfl⟩ := List.getElem_of_mem hx
      exact (World.cells?_some (hget i _ (List.getElem?_eq_getElem hi)).1).2.1
    refine ⟨some a, len, cap, xss, rfl, ⟨_, _, rfl, by rw [flat_length xss hlen', hxl], hl, hm, (fun h => by cases h), fun hn => ?_⟩, hxl, hlen', ?_, ?_⟩
    · have h0 := (hget 0 _ (List.getElem?_eq_getElem (by omega))).1
      rw [Nat.zero_mul] at h0
      have hs : a.spot = none := cells?_spot hsz (x := a) (by simpa [Addr.add] using h0)
      obtain ⟨b, o, s⟩ := a
      subst hs
      refine ⟨b, o, rfl, fun j hj => ?_⟩
      have hq : j / P.cellsOf e < xss.length := by rw [hxl]; exact (Nat.div_lt_iff_lt_mul hsz).2 hj
      have hmod := Nat.mod_lt j hsz
      have hdm := Nat.div_add_mod j (P.cellsOf e)
      have hg := (hget _ _ (List.getElem?_eq_getElem hq)).1
      have hc := (World.cells?_some hg).2.2 (j % P.cellsOf e) hmod
      rw [Addr.add_lit, Addr.add_lit, Nat.add_assoc, Nat.mul_comm (j / P.cellsOf e), hdm] at hc
      rw [hc, ← flat_get xss hlen' (j / P.cellsOf e) (j % P.cellsOf e) _ (List.getElem?_eq_getElem hq) hmod, Nat.mul_comm, hdm]
    · have := hfit.slice ht
      simp only [List.length_map, hlen, hr] at this
      rwa [show len + (cap - len) = cap by omega] at this
    · intro xs hx
      obtain ⟨i, hi, rfl⟩ := List.getElem_of_mem hx
      obtain ⟨_, d', ps', h1, h2⟩ := hget i _ (List.getElem?_eq_getElem hi)
      exact ⟨n, d', ps', h1, h2⟩

/-- A slice of whole numbers. -/
theorem rd_ints {t e : TypeId} {k : IntKind} {fuel : Nat} {cs : List Value} {d : DataW H} {ps : List MemPlace} (ht : P.underlying t = some (.slice e)) (he : P.underlying e = some (.int k)) (hc : P.cellsOf e = 1)
    (h : DataW.trod enc P w 0 (fun _ => true) true fuel t cs = some (d, ps)) (hfit : Fits P t d) :
    ∃ (ao : Option Addr) (n cap : Nat) (zs : List Int), cs = [.slice ao n cap] ∧ Rd w 1 (.slice ao n cap) n (zs.map (Value.int k)) ∧ cap * P.bytesOf e ≤ reachBytes ∧ ∀ z ∈ zs, (Lit.int k z).wf = true := by
  obtain ⟨ao, n, cap, xss, hcs, hrd, hl, hl1, hreach, hel⟩ := rd_slice ht hc (by omega) h hfit
  obtain ⟨zs, hzl, hzs⟩ := list_choose (p := fun (xs : List Value) (z : Int) => xs = [.int k z] ∧ (Lit.int k z).wf = true) xss (by
    intro xs hx
    obtain ⟨m, d', ps', h1, _⟩ := hel xs hx
    obtain ⟨z, h2, _, h3⟩ := DataW.trod_int he h1
    exact ⟨z, h2, h3⟩)
  refine ⟨ao, n, cap, zs, hcs, ?_, hreach, ?_⟩
  · have : xss.flatten = zs.map (Value.int k) := by
      apply List.ext_getElem?
      intro i
      by_cases hi : i < xss.length
      · obtain ⟨z, hz, h1, _⟩ := hzs i _ (List.getElem?_eq_getElem hi)
        have := flat_get xss hl1 i 0 _ (List.getElem?_eq_getElem hi) (by omega)
        rw [Nat.mul_one, Nat.add_zero, h1] at this
        simp [this, hz]
      · rw [List.getElem?_eq_none (by rw [flat_length xss hl1]; omega), List.getElem?_eq_none (by simp; omega)]
    rw [← this]; exact hrd
  · intro z hz
    obtain ⟨i, hi, rfl⟩ := List.getElem_of_mem hz
    obtain ⟨y, hy, _, h2⟩ := hzs i _ (List.getElem?_eq_getElem (by omega))
    rw [List.getElem?_eq_getElem hi] at hy
    cases hy
    exact h2
end
end Go.Proofs.YtkhjdcnlpablkaaDoor
