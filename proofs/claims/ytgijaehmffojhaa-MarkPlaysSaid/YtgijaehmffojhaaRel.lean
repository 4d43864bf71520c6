/- The marked mailbox and the document's: the same, said in two ways. -/
import Derived.Test.YtgijaehmffojhaaRef2
namespace Go.Proofs.Ytgijaehmffojhaa
open Go.RowKit

/-- How many messages are not newer than c. -/
def cnt (L : List (Int × Int)) (c : Int) : Nat := (L.filter (fun m => decide (m.2 ≤ c))).length

theorem cnt_app (L : List (Int × Int)) (v n c : Int) (h : c < n) : cnt (L ++ [(v, n)]) c = cnt L c := by
  unfold cnt
  rw [List.filter_append, List.length_append]
  simp
  omega

theorem cnt_all {L : List (Int × Int)} {c : Int} (h : ∀ m ∈ L, m.2 ≤ c) : cnt L c = L.length := by
  unfold cnt
  rw [List.filter_eq_self.2 (fun m hm => by simpa using h m hm)]

theorem cnt_first : ∀ {L : List (Int × Int)} {c n x : Int} {i : Nat}, L.Pairwise (fun a b => a.2 < b.2) → L[i]? = some (x, n) → c < n → (∀ m ∈ L.take i, m.2 ≤ c) → cnt L c = i
  | [], _, _, _, _, _, h, _, _ => by simp at h
  | m :: L, c, n, x, 0, hi, h, hc, _ => by
    simp at h
    subst h
    unfold cnt
    rw [List.filter_eq_nil_iff.2]
    · rfl
    · intro y hy
      simp only [List.mem_cons] at hy
      rw [List.pairwise_cons] at hi
      rcases hy with rfl | hy
      · simpa using hc
      · have h' : n < y.2 := hi.1 y hy
        simp; omega
  | m :: L, c, n, x, i + 1, hi, h, hc, hn => by
    simp only [List.getElem?_cons_succ] at h
    rw [List.pairwise_cons] at hi
    have h1 : m.2 ≤ c := hn m (by simp)
    have := cnt_first hi.2 h hc (fun y hy => hn y (by simp [hy]))
    unfold cnt at this ⊢
    rw [List.filter_cons, if_pos (by simpa using h1), List.length_cons, this]

theorem cnt_at : ∀ {L : List (Int × Int)} {n x : Int} {i : Nat}, L.Pairwise (fun a b => a.2 < b.2) → L[i]? = some (x, n) → cnt L n = i + 1
  | [], _, _, _, _, h => by simp at h
  | m :: L, n, x, 0, hi, h => by
    simp at h
    subst h
    rw [List.pairwise_cons] at hi
    unfold cnt
    rw [List.filter_cons, if_pos (by simp), List.length_cons, List.filter_eq_nil_iff.2]
    · rfl
    · intro y hy
      have h' : n < y.2 := hi.1 y hy
      simp; omega
  | m :: L, n, x, i + 1, hi, h => by
    simp only [List.getElem?_cons_succ] at h
    rw [List.pairwise_cons] at hi
    have := cnt_at hi.2 h
    have hm : m.2 < n := hi.1 _ (List.mem_of_getElem? h)
    unfold cnt at this ⊢
    rw [List.filter_cons, if_pos (by simp; omega), List.length_cons, this]

theorem cnt_le (L : List (Int × Int)) (c : Int) : cnt L c ≤ L.length := List.length_filter_le _ _

theorem cnt_zero {L : List (Int × Int)} {c : Int} (h : ∀ m ∈ L, c < m.2) : cnt L c = 0 := by
  unfold cnt
  rw [List.filter_eq_nil_iff.2 (fun m hm => by have := h m hm; simp; omega)]
  rfl

/-- The one and the other. -/
structure Rel (X : Bx) (R : Rx) : Prop where
  words : X.ns.map (·.2) = R.L.map (·.1)
  room : X.room = R.room
  ex : X.ex = R.ex
  on : X.on = R.going
  inc : R.L.Pairwise (fun a b => a.2 < b.2)
  lo : ∀ m ∈ R.L, 1 ≤ m.2 ∧ m.2 ≤ R.came
  ms : X.ms = R.ms.map (fun m => (m.1, cnt R.L m.2))
  mc : ∀ m ∈ R.ms, m.2 ≤ R.came
  cur : X.cur = cnt R.L R.atn
  atc : R.atn ≤ R.came
  last : (R.last = 0 ∧ X.last = 0) ∨ (0 < X.last ∧ ∃ w, R.L[X.last - 1]? = some (w, R.last))
  off : R.going = false → X.last = 0
  c0 : 0 ≤ R.came

theorem Rel.len {X : Bx} {R : Rx} (h : Rel X R) : X.ns.length = R.L.length := by
  have := congrArg List.length h.words
  simpa using this

theorem Rel.mlen {X : Bx} {R : Rx} (h : Rel X R) : X.ms.length = R.ms.length := by rw [h.ms]; simp

theorem place_map {α β : Type} (f : β → Int) (g : α → β) (r : Int) (l : List α) : place f r (l.map g) = place (fun a => f (g a)) r l := by
  unfold place
  rw [List.findIdx?_map]
  rfl

theorem Rel.find {X : Bx} {R : Rx} (h : Rel X R) (ref : Int) : place (·.1) ref X.ms = place (·.1) ref R.ms := by
  rw [h.ms, place_map]

def Rx.made (room : Int) : Rx := ⟨room, [], 0, 0, 0, false, [], 0⟩

theorem Rel.made (room : Int) : Rel (Bx.made room) (Rx.made room) :=
  ⟨rfl, rfl, rfl, rfl, by simp [Rx.made], by simp [Rx.made], rfl, by simp [Rx.made], rfl, Int.le_refl _, .inl ⟨rfl, rfl⟩, fun _ => rfl, Int.le_refl _⟩

theorem Rel.put {X : Bx} {R : Rx} (h : Rel X R) (N : Nat) (v : Int) : Rel (X.put N v) (R.put v) := by
  have hc := h.c0
  refine ⟨by simp [Bx.put, Rx.put, h.words], h.room, h.ex, h.on, ?_, fun m hm => ?_, ?_, fun m hm => ?_, ?_, ?_, ?_, h.off, ?_⟩
  · show (R.L ++ [(v, R.came + 1)]).Pairwise _
    rw [List.pairwise_append]
    refine ⟨h.inc, by simp, fun a ha b hb => ?_⟩
    simp at hb
    subst hb
    have := (h.lo a ha).2
    show a.2 < R.came + 1
    omega
  · have hm' : m ∈ R.L ++ [(v, R.came + 1)] := hm
    simp at hm'
    rcases hm' with hm' | rfl
    · have := h.lo m hm'
      show 1 ≤ m.2 ∧ m.2 ≤ R.came + 1
      omega
    · show 1 ≤ R.came + 1 ∧ R.came + 1 ≤ R.came + 1
      omega
  · show X.ms = R.ms.map (fun m => (m.1, cnt (R.L ++ [(v, R.came + 1)]) m.2))
    rw [h.ms]
    apply List.map_congr_left
    intro m hm
    rw [cnt_app _ _ _ _ (by have := h.mc m hm; omega)]
  · have := h.mc m hm
    show m.2 ≤ R.came + 1
    omega
  · show X.cur = cnt (R.L ++ [(v, R.came + 1)]) R.atn
    rw [cnt_app _ _ _ _ (by have := h.atc; omega), h.cur]
  · show R.atn ≤ R.came + 1
    have := h.atc
    omega
  · rcases h.last with h1 | ⟨h1, x, h2⟩
    · exact .inl h1
    · refine .inr ⟨h1, x, ?_⟩
      show (R.L ++ [(v, R.came + 1)])[X.last - 1]? = _
      rw [List.getElem?_append_left (List.getElem?_eq_some_iff.1 h2).1]
      exact h2
  · show 0 ≤ R.came + 1
    omega

theorem Rel.told {X : Bx} {R : Rx} (h : Rel X R) {x n : Int} (hi : R.L[X.cur]? = some (x, n)) : Rel X.told (R.told n) := by
  have hm := h.lo _ (List.mem_of_getElem? hi)
  refine ⟨h.words, h.room, by show X.ex + 1 = R.ex + 1; rw [h.ex], rfl, h.inc, h.lo, h.ms, h.mc, ?_, hm.2, .inr ⟨Nat.succ_pos _, x, by show R.L[X.cur + 1 - 1]? = _; rw [Nat.add_sub_cancel]; exact hi⟩, (fun e => by cases e), h.c0⟩
  show (if X.cur + 1 ≠ 0 then X.cur + 1 else X.fro) = cnt R.L n
  rw [if_pos (by omega), cnt_at h.inc hi]

theorem Rel.goes {X : Bx} {R : Rx} (h : Rel X R) : Rel X.going R.goes :=
  ⟨h.words, h.room, h.ex, rfl, h.inc, h.lo, h.ms, h.mc, h.cur, h.atc, h.last, (fun e => by cases e), h.c0⟩

/-- The next one: both say the same. -/
theorem Rel.next_some {X : Bx} {R : Rx} (h : Rel X R) {i : Nat} {x n : Int} (hi : R.L[i]? = some (x, n)) (hn : R.atn < n) (ho : ∀ m ∈ R.L.take i, m.2 ≤ R.atn) : X.cur = i := by
  rw [h.cur, cnt_first h.inc hi hn ho]

theorem Rel.next_none {X : Bx} {R : Rx} (h : Rel X R) (ho : ∀ m ∈ R.L, m.2 ≤ R.atn) : X.cur = X.ns.length := by
  rw [h.cur, cnt_all ho, h.len]

theorem Rel.word {X : Bx} {R : Rx} (h : Rel X R) {i b : Nat} {x : Int} (hi : X.ns[i]? = some (b, x)) : ∃ n, R.L[i]? = some (x, n) := by
  have h1 : (X.ns.map (·.2))[i]? = some x := by simp [hi]
  rw [h.words, List.getElem?_map] at h1
  cases h2 : R.L[i]? with
  | none => rw [h2] at h1; simp at h1
  | some y =>
    rw [h2] at h1
    simp at h1
    exact ⟨y.2, by rw [← h1]⟩

theorem Rel.mark {X : Bx} {R : Rx} (h : Rel X R) (ref : Int) : Rel (X.mark ref) (R.mark ref) := by
  refine ⟨h.words, h.room, h.ex, h.on, h.inc, h.lo, ?_, fun m hm => ?_, h.cur, h.atc, h.last, h.off, h.c0⟩
  · show X.ms ++ [(ref, X.ns.length)] = (R.ms ++ [(ref, R.came)]).map (fun m => (m.1, cnt R.L m.2))
    rw [List.map_append, ← h.ms]
    simp
    rw [cnt_all (fun m hm => (h.lo m hm).2), h.len]
  · have hm' : m ∈ R.ms ++ [(ref, R.came)] := hm
    simp at hm'
    rcases hm' with hm' | rfl
    · exact h.mc m hm'
    · exact Int.le_refl _

theorem Rel.marks {X : Bx} {R : Rx} (h : Rel X R) {l : List (Int × Int)} (hl : ∀ m ∈ l, m ∈ R.ms) {l' : List (Int × Nat)} (e : l' = l.map (fun m => (m.1, cnt R.L m.2))) : Rel { X with ms := l' } { R with ms := l } :=
  ⟨h.words, h.room, h.ex, h.on, h.inc, h.lo, e, fun m hm => h.mc m (hl m hm), h.cur, h.atc, h.last, h.off, h.c0⟩

theorem Rel.marked {X : Bx} {R : Rx} (h : Rel X R) (ref : Int) : Rel (if X.ms.length < 64 then X.mark ref else X.first.mark ref) (R.marked ref) := by
  unfold Rx.marked
  rw [h.mlen]
  by_cases hl : R.ms.length < 64
  · rw [if_pos hl, if_pos hl]; exact h.mark ref
  · rw [if_neg hl, if_neg hl]
    have h1 : Rel X.first { R with ms := R.ms.drop 1 } := h.marks (fun m hm => List.mem_of_mem_drop hm) (by rw [h.ms, List.map_drop])
    have h2 := h1.mark ref
    have e : cutA (R.ms ++ [(ref, R.came)]) 0 = R.ms.drop 1 ++ [(ref, R.came)] := by
      unfold cutA
      rw [List.take_zero, List.nil_append, List.drop_append_of_le_length (by omega)]
    rw [e]
    exact h2

theorem Rel.used {X : Bx} {R : Rx} (h : Rel X R) (ho : R.going = false) {k : Nat} {r c : Int} (hm : R.ms[k]? = some (r, c)) : X.ms[k]? = some (r, cnt R.L c) ∧ Rel (X.used (cnt R.L c)) (R.used c) := by
  have hl := h.off ho
  refine ⟨by rw [h.ms, List.getElem?_map, hm]; rfl, h.words, h.room, h.ex, rfl, h.inc, h.lo, h.ms, h.mc, ?_, h.mc _ (List.mem_of_getElem? hm), h.last, (fun e => by cases e), h.c0⟩
  show (if X.last ≠ 0 then X.last else cnt R.L c) = cnt R.L c
  rw [if_neg (by omega)]

/-- The two mailboxes, which lie apart. -/
structure Pair (B : Nat) (w0 w : World) (p q : Nat) (mv : Value) (X : Bx) (lv rv : Value) (R : Rx) : Prop where
  b : MbIn B w0 w p mv X
  r : Rb w q lv rv R
  rl : ∀ k, rf q lv rv k → B ≤ k
  dis : ∀ k, mf p X.ns mv k → ¬ rf q lv rv k

theorem Pair.stepB {B : Nat} {w0 w w' : World} {p q : Nat} {mv : Value} {X Y : Bx} {lv rv : Value} {R : Rx} (h : Pair B w0 w p q mv X lv rv R) (hp : MPost p X.ns mv Y w w') :
    ∃ mv', Pair B w0 w' p q mv' Y lv rv R ∧ Fr (mf p X.ns mv) w w' := by
  obtain ⟨mv', hb, hf, hg⟩ := hp
  have hs := h.b.size
  refine ⟨mv', ⟨⟨hb, fun k hk => ?_, h.b.below.trans (hf.below h.b.size h.b.lies), Nat.le_trans h.b.size hf.size⟩, h.r.keep hf (fun k hk hk' => h.dis k hk' hk), h.rl, fun k hk hk' => ?_⟩, hf⟩
  · rcases hg k hk with x | x
    · exact h.b.lies k x
    · omega
  · rcases hg k hk with x | x
    · exact h.dis k x hk'
    · have := h.r.lt k hk'; omega

theorem Pair.stepR {B : Nat} {w0 w w' : World} {p q : Nat} {mv : Value} {X : Bx} {lv rv : Value} {R S : Rx} (h : Pair B w0 w p q mv X lv rv R) (hp : RPost q lv rv S w w') :
    ∃ lv' rv', Pair B w0 w' p q mv X lv' rv' S ∧ Fr (rf q lv rv) w w' := by
  obtain ⟨lv', rv', hb, hf, hg⟩ := hp
  have hs := h.b.size
  refine ⟨lv', rv', ⟨h.b.keep hf (fun k hk hk' => h.dis k hk hk') h.rl, hb, fun k hk => ?_, fun k hk hk' => ?_⟩, hf⟩
  · rcases hg k hk with x | x
    · exact h.rl k x
    · omega
  · rcases hg k hk' with x | x
    · exact h.dis k hk x
    · have := h.b.m.lt k hk; omega

theorem Pair.keep {B : Nat} {w0 w w' : World} {p q : Nat} {mv : Value} {X : Bx} {lv rv : Value} {R : Rx} (h : Pair B w0 w p q mv X lv rv R) {F : Nat → Prop} (hf : Fr F w w') (h1 : ∀ k, mf p X.ns mv k → ¬ F k) (h2 : ∀ k, rf q lv rv k → ¬ F k) (h3 : ∀ k, F k → B ≤ k) :
    Pair B w0 w' p q mv X lv rv R := ⟨h.b.keep hf h1 h3, h.r.keep hf h2, h.rl, h.dis⟩

theorem Pair.bel {B : Nat} {w0 w w' : World} {p q : Nat} {mv : Value} {X : Bx} {lv rv : Value} {R : Rx} (h : Pair B w0 w p q mv X lv rv R) (hb : Below w.heap.size w w') : Pair B w0 w' p q mv X lv rv R :=
  h.keep (bel_fr0 hb) (fun _ _ h => h) (fun _ _ h => h) (fun _ h => h.elim)
end Go.Proofs.Ytgijaehmffojhaa
