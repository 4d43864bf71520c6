/- Plain: what bytes are read as, tag by tag. -/
import Derived.Test.YtkhjdcnlpablkaaDoorRdp
namespace Go.Proofs.YtkhjdcnlpablkaaDoor

/-- A fault (its number, its place), or an answer. -/
inductive Res (α : Type) where
  | bad (e p : Nat)
  | ok (a : α)

def Res.bind {α β : Type} : Res α → (α → Res β) → Res β
  | .bad e p, _ => .bad e p
  | .ok a, f => f a

section
variable (bs : List UInt8)

/-- A number of n bytes at a place. -/
def numD (pos n : Nat) : Res Nat := if bs.length < pos + n then .bad 62 bs.length else .ok (beN (rest bs pos n))
/-- So many bytes. -/
def takeD (pos n : Nat) : Res (List UInt8) := if bs.length < pos + n then .bad 62 bs.length else .ok (rest bs pos n)
/-- A tag. -/
def tagD (pos : Nat) : Res Nat := numD bs pos 1

/-- An atom's text behind its tag, whose place is tg. -/
def textD (pos tag tg : Nat) : Res (ByteArray × Nat) :=
  let k := if tag = 118 then 2 else 1
  (numD bs pos k).bind fun n => (takeD bs (pos + k) n).bind fun l => if rightL l then .ok (⟨l.toArray⟩, pos + k + n) else .bad 20 tg

/-- A node's name: the place behind it. -/
def hostD (pos : Nat) : Res Nat :=
  (tagD bs pos).bind fun tag => if tag ≠ 119 ∧ tag ≠ 118 then .bad 61 pos else (textD bs (pos + 1) tag pos).bind fun p => .ok p.2

/-- The number of bytes, the lowest first. -/
def leV : List UInt8 → Nat
  | [] => 0
  | c :: r => c.toNat + 256 * leV r

/-- A number of any size. -/
def bigD (pos tg : Nat) : Res (Int × Nat) :=
  (numD bs pos 1).bind fun n => (numD bs (pos + 1) 1).bind fun sign => (takeD bs (pos + 2) n).bind fun d =>
    if 1 < sign then .bad 1 tg
    else if 9223372036854775808 < leV d ∨ (leV d = 9223372036854775808 ∧ sign = 0) then .bad 7 tg
    else .ok (if sign = 1 then -(leV d : Int) else (leV d : Int), pos + 2 + n)

/-- A process: its number. -/
def pidD (pos tg : Nat) : Res (Int × Nat) :=
  (hostD bs pos).bind fun p => (numD bs p 4).bind fun id => (numD bs (p + 4) 4).bind fun serial => (numD bs (p + 8) 4).bind fun _ =>
    if 256 < serial ∨ id + serial * 4294967296 < 1 ∨ 1099511627776 < id + serial * 4294967296 then .bad 1 tg else .ok (((id + serial * 4294967296 : Nat) : Int), p + 12)

/-- A word of a reference. -/
def refW (l : List UInt8) (i : Nat) : Nat := beN (rest l (4 * i) 4)
def refX (l : List UInt8) (k : Nat) : Nat := if k < 2 then 0 else refW l 1
/-- The words of a reference: the first, the second, all others nought. -/
def refV (l : List UInt8) (k : Nat) : Option Nat :=
  if k < 1 ∨ 5 < k then none
  else
    if 65536 < refX l k ∨ (List.range k).any (fun i => decide (2 ≤ i ∧ refW l i ≠ 0)) = true then none
    else if refW l 0 + refX l k * 4294967296 < 1 ∨ 281474976710656 < refW l 0 + refX l k * 4294967296 then none else some (refW l 0 + refX l k * 4294967296)

def refD (pos tg : Nat) : Res (Int × Nat) :=
  (numD bs pos 2).bind fun k => (hostD bs (pos + 2)).bind fun p => (numD bs p 4).bind fun _ => (takeD bs (p + 4) (4 * k)).bind fun l =>
    match refV l k with
    | none => .bad 1 tg
    | some n => .ok ((n : Int), p + 4 + 4 * k)

/-- Where the reading stands: the place, the cells that are counted, the cells. -/
structure Rs where
  pos : Nat
  cells : Nat
  out : List Ce

/-- One more cell. -/
def madeD (s : Rs) (pos tg : Nat) (c : Ce) : Res (Rs × Nat × Bool) := if 1024 < s.cells + 1 then .bad 7 tg else .ok (⟨pos, s.cells + 1, s.out ++ [c]⟩, 0, false)

def intC (n : Int) : Ce := ⟨1, n, ⟨#[]⟩⟩
def charCs (l : List UInt8) : List Ce := l.flatMap fun c => [consC, intC (c.toNat : Int)]
def nilC : Ce := ⟨6, 0, ⟨#[]⟩⟩

/-- A number of four bytes with a sign. -/
def sgn4 (n : Nat) : Int := if n < 2147483648 then n else (n : Int) - 4294967296

/-- The term whose tag stands next; how many terms follow, a cons ahead of the first ones or not. -/
def bodyD (s : Rs) (tag p : Nat) : Res (Rs × Nat × Bool) :=
    if tag = 97 then (numD bs p 1).bind fun n => madeD s (p + 1) s.pos (intC n)
    else if tag = 98 then (numD bs p 4).bind fun n => madeD s (p + 4) s.pos (intC (sgn4 n))
    else if tag = 110 then (bigD bs p s.pos).bind fun x => madeD s x.2 s.pos (intC x.1)
    else if tag = 119 ∨ tag = 118 then (textD bs p tag s.pos).bind fun x => madeD s x.2 s.pos ⟨2, 0, x.1⟩
    else if tag = 104 then (numD bs p 1).bind fun n => (madeD s (p + 1) s.pos ⟨5, n, ⟨#[]⟩⟩).bind fun x => .ok (x.1, n, false)
    else if tag = 105 then (numD bs p 4).bind fun n => if 255 < n then .bad 1 s.pos else (madeD s (p + 4) s.pos ⟨5, n, ⟨#[]⟩⟩).bind fun x => .ok (x.1, n, false)
    else if tag = 106 then madeD s p s.pos nilC
    else if tag = 107 then (numD bs p 2).bind fun n => (takeD bs (p + 2) n).bind fun l => if 1024 < s.cells + (2 * n + 1) then .bad 7 s.pos else .ok (⟨p + 2 + n, s.cells + (2 * n + 1), s.out ++ charCs l ++ [nilC]⟩, 0, false)
    else if tag = 108 then (numD bs p 4).bind fun n => if 1024 < s.cells + n then .bad 7 s.pos else .ok (⟨p + 4, s.cells + n, s.out⟩, n + 1, true)
    else if tag = 109 then (numD bs p 4).bind fun n => (takeD bs (p + 4) n).bind fun l => if 1024 < n then .bad 4 s.pos else madeD s (p + 4 + n) s.pos ⟨8, 0, ⟨l.toArray⟩⟩
    else if tag = 88 then (pidD bs p s.pos).bind fun x => madeD s x.2 s.pos ⟨4, x.1, ⟨#[]⟩⟩
    else if tag = 90 then (refD bs p s.pos).bind fun x => madeD s x.2 s.pos ⟨3, x.1, ⟨#[]⟩⟩
    else .bad 61 s.pos

def oneD (s : Rs) : Res (Rs × Nat × Bool) := (tagD bs s.pos).bind fun tag => bodyD bs s tag (s.pos + 1)

/-- A cons ahead of the next term. -/
def push (c : Bool) (k : Nat) (s : Rs) : Rs := if c && decide (0 < k) then { s with out := s.out ++ [consC] } else s

/-- k terms one after another. -/
def kidsD : Nat → Nat → Bool → Rs → Option (Res Rs)
  | _, 0, _, s => some (.ok s)
  | 0, _ + 1, _, _ => none
  | f + 1, k + 1, c, s =>
    match oneD bs (push c k s) with
    | .bad e p => some (.bad e p)
    | .ok (s1, k1, c1) =>
      match kidsD f k1 c1 s1 with
      | some (.ok s2) => kidsD f k c s2
      | r => r

/-- The answer, whatever the fuel. -/
def Runs (k : Nat) (c : Bool) (s : Rs) (r : Res Rs) : Prop := ∃ f, kidsD bs f k c s = some r
end

theorem Res.bind_ok {α β : Type} {x : Res α} {f : α → Res β} {b : β} (h : x.bind f = .ok b) : ∃ a, x = .ok a ∧ f a = .ok b := by
  cases x with
  | bad e p => cases h
  | ok a => exact ⟨a, rfl, h⟩

theorem numD_ok {bs : List UInt8} {pos n v : Nat} (h : numD bs pos n = .ok v) : pos + n ≤ bs.length ∧ v = beN (rest bs pos n) := by
  unfold numD at h
  split at h
  · cases h
  · cases h; exact ⟨by omega, rfl⟩
theorem takeD_ok {bs : List UInt8} {pos n : Nat} {l : List UInt8} (h : takeD bs pos n = .ok l) : pos + n ≤ bs.length ∧ l = rest bs pos n := by
  unfold takeD at h
  split at h
  · cases h
  · cases h; exact ⟨by omega, rfl⟩
theorem madeD_ok {s : Rs} {pos tg : Nat} {c : Ce} {x : Rs × Nat × Bool} (h : madeD s pos tg c = .ok x) : x = (⟨pos, s.cells + 1, s.out ++ [c]⟩, 0, false) ∧ s.cells + 1 ≤ 1024 := by
  unfold madeD at h
  split at h
  · cases h
  · cases h; exact ⟨rfl, by omega⟩
theorem textD_ok {bs : List UInt8} {pos tag tg : Nat} {x : ByteArray × Nat} (h : textD bs pos tag tg = .ok x) : pos < x.2 ∧ x.2 ≤ bs.length := by
  unfold textD at h
  obtain ⟨n, h1, h⟩ := Res.bind_ok h
  obtain ⟨l, h2, h⟩ := Res.bind_ok h
  have h2 := takeD_ok h2
  split at h
  · cases h; simp only; refine ⟨?_, h2.1⟩; split <;> omega
  · cases h
theorem hostD_ok {bs : List UInt8} {pos p : Nat} (h : hostD bs pos = .ok p) : pos < p ∧ p ≤ bs.length := by
  unfold hostD at h
  obtain ⟨tag, h1, h⟩ := Res.bind_ok h
  split at h
  · cases h
  · obtain ⟨x, h2, h⟩ := Res.bind_ok h
    cases h
    have := textD_ok h2
    omega
theorem bigD_ok {bs : List UInt8} {pos tg : Nat} {x : Int × Nat} (h : bigD bs pos tg = .ok x) : pos < x.2 ∧ x.2 ≤ bs.length := by
  unfold bigD at h
  obtain ⟨n, h1, h⟩ := Res.bind_ok h
  obtain ⟨sg, h2, h⟩ := Res.bind_ok h
  obtain ⟨l, h3, h⟩ := Res.bind_ok h
  have h3 := takeD_ok h3
  split at h
  · cases h
  · split at h
    · cases h
    · cases h; simp only; omega
theorem pidD_ok {bs : List UInt8} {pos tg : Nat} {x : Int × Nat} (h : pidD bs pos tg = .ok x) : pos < x.2 ∧ x.2 ≤ bs.length := by
  unfold pidD at h
  obtain ⟨p, h1, h⟩ := Res.bind_ok h
  obtain ⟨a, h2, h⟩ := Res.bind_ok h
  obtain ⟨b, h3, h⟩ := Res.bind_ok h
  obtain ⟨c, h4, h⟩ := Res.bind_ok h
  have h1 := hostD_ok h1
  have h4 := numD_ok h4
  split at h
  · cases h
  · cases h; simp only; omega
theorem refD_ok {bs : List UInt8} {pos tg : Nat} {x : Int × Nat} (h : refD bs pos tg = .ok x) : pos < x.2 ∧ x.2 ≤ bs.length := by
  unfold refD at h
  obtain ⟨k, h0, h⟩ := Res.bind_ok h
  obtain ⟨p, h1, h⟩ := Res.bind_ok h
  obtain ⟨a, h2, h⟩ := Res.bind_ok h
  obtain ⟨l, h3, h⟩ := Res.bind_ok h
  have h1 := hostD_ok h1
  have h3 := takeD_ok h3
  split at h
  · cases h
  · cases h; simp only; omega

/-- What is read goes on. -/
theorem oneD_ok {bs : List UInt8} {s s' : Rs} {k : Nat} {c : Bool} (h : oneD bs s = .ok (s', k, c)) : s.pos < s'.pos ∧ s'.pos ≤ bs.length ∧ s'.cells ≤ 1024 ∧ s'.out.length + s.cells ≤ s.out.length + s'.cells ∧ s.cells ≤ s'.cells ∧ k ≤ 1025 := by
  have hch : ∀ l : List UInt8, (charCs l).length = 2 * l.length := by
    intro l
    induction l with
    | nil => rfl
    | cons a b ih => simp only [charCs, List.flatMap_cons, List.length_append, List.length_cons, List.length_nil] at *; omega
  unfold oneD at h
  obtain ⟨tag, h1, h⟩ := Res.bind_ok h
  unfold bodyD at h
  by_cases ht0 : tag = 97
  · rw [if_pos ht0] at h
    obtain ⟨n, h2, h⟩ := Res.bind_ok h
    have h2 := numD_ok h2
    have h3 := madeD_ok h
    obtain ⟨h3, h4⟩ := h3
    cases h3
    simp; omega
  rw [if_neg ht0] at h
  by_cases ht1 : tag = 98
  · rw [if_pos ht1] at h
    obtain ⟨n, h2, h⟩ := Res.bind_ok h
    have h2 := numD_ok h2
    obtain ⟨h3, h4⟩ := madeD_ok h
    cases h3
    simp; omega
  rw [if_neg ht1] at h
  by_cases ht2 : tag = 110
  · rw [if_pos ht2] at h
    obtain ⟨n, h2, h⟩ := Res.bind_ok h
    have h2 := bigD_ok h2
    obtain ⟨h3, h4⟩ := madeD_ok h
    cases h3
    simp; omega
  rw [if_neg ht2] at h
  by_cases ht3 : tag = 119 ∨ tag = 118
  · rw [if_pos ht3] at h
    obtain ⟨n, h2, h⟩ := Res.bind_ok h
    have h2 := textD_ok h2
    obtain ⟨h3, h4⟩ := madeD_ok h
    cases h3
    simp; omega
  rw [if_neg ht3] at h
  by_cases ht4 : tag = 104
  · rw [if_pos ht4] at h
    obtain ⟨n, h2, h⟩ := Res.bind_ok h
    have h2 := numD_ok h2
    obtain ⟨x, h3, h⟩ := Res.bind_ok h
    obtain ⟨h3, h4⟩ := madeD_ok h3
    subst h3
    cases h
    have := beN_lt (rest bs (s.pos + 1) 1)
    rw [rest_len h2.1] at this
    simp; omega
  rw [if_neg ht4] at h
  by_cases ht5 : tag = 105
  · rw [if_pos ht5] at h
    obtain ⟨n, h2, h⟩ := Res.bind_ok h
    have h2 := numD_ok h2
    split at h
    · cases h
    obtain ⟨x, h3, h⟩ := Res.bind_ok h
    obtain ⟨h3, h4⟩ := madeD_ok h3
    subst h3
    cases h
    simp; omega
  rw [if_neg ht5] at h
  by_cases ht6 : tag = 106
  · rw [if_pos ht6] at h
    have h2 := numD_ok h1
    obtain ⟨h3, h4⟩ := madeD_ok h
    cases h3
    simp; omega
  rw [if_neg ht6] at h
  by_cases ht7 : tag = 107
  · rw [if_pos ht7] at h
    obtain ⟨n, h2, h⟩ := Res.bind_ok h
    obtain ⟨l, h3, h⟩ := Res.bind_ok h
    have h3 := takeD_ok h3
    split at h
    · cases h
    · cases h
      have := rest_len h3.1
      rw [← h3.2] at this
      simp [hch]; omega
  rw [if_neg ht7] at h
  by_cases ht8 : tag = 108
  · rw [if_pos ht8] at h
    obtain ⟨n, h2, h⟩ := Res.bind_ok h
    have h2 := numD_ok h2
    split at h
    · cases h
    · cases h; simp; omega
  rw [if_neg ht8] at h
  by_cases ht9 : tag = 109
  · rw [if_pos ht9] at h
    obtain ⟨n, h2, h⟩ := Res.bind_ok h
    obtain ⟨l, h3, h⟩ := Res.bind_ok h
    have h3 := takeD_ok h3
    split at h
    · cases h
    · obtain ⟨h3, h4⟩ := madeD_ok h
      cases h3
      simp; omega
  rw [if_neg ht9] at h
  by_cases ht10 : tag = 88
  · rw [if_pos ht10] at h
    obtain ⟨n, h2, h⟩ := Res.bind_ok h
    have h2 := pidD_ok h2
    obtain ⟨h3, h4⟩ := madeD_ok h
    cases h3
    simp; omega
  rw [if_neg ht10] at h
  by_cases ht11 : tag = 90
  · rw [if_pos ht11] at h
    obtain ⟨n, h2, h⟩ := Res.bind_ok h
    have h2 := refD_ok h2
    obtain ⟨h3, h4⟩ := madeD_ok h
    cases h3
    simp; omega
  rw [if_neg ht11] at h
  cases h

/-! ### The fuel does not matter -/
theorem kids_mono (bs : List UInt8) : ∀ (f k : Nat) (c : Bool) (s : Rs) (r : Res Rs), kidsD bs f k c s = some r → kidsD bs (f + 1) k c s = some r
  | _, 0, _, _, _, h => by simpa [kidsD] using h
  | 0, _ + 1, _, _, _, h => by simp [kidsD] at h
  | f + 1, k + 1, c, s, r, h => by
    rw [kidsD] at h ⊢
    cases h1 : oneD bs (push c k s) with
    | bad e p => rw [h1] at h; exact h
    | ok x =>
      obtain ⟨s1, k1, c1⟩ := x
      rw [h1] at h
      simp only at h ⊢
      cases h2 : kidsD bs f k1 c1 s1 with
      | none => rw [h2] at h; simp at h
      | some y =>
        rw [h2] at h
        rw [kids_mono bs f k1 c1 s1 y h2]
        cases y with
        | bad e p => exact h
        | ok s2 => exact kids_mono bs f k c s2 r h

theorem kids_le (bs : List UInt8) {f g k : Nat} {c : Bool} {s : Rs} {r : Res Rs} (h : kidsD bs f k c s = some r) (hg : f ≤ g) : kidsD bs g k c s = some r := by
  induction hg with
  | refl => exact h
  | step _ ih => exact kids_mono bs _ _ _ _ _ ih

theorem Runs.unique {bs : List UInt8} {k : Nat} {c : Bool} {s : Rs} {r r' : Res Rs} (h : Runs bs k c s r) (h' : Runs bs k c s r') : r = r' := by
  obtain ⟨f, hf⟩ := h
  obtain ⟨g, hg⟩ := h'
  have h1 := kids_le bs hf (Nat.le_max_left f g)
  have h2 := kids_le bs hg (Nat.le_max_right f g)
  rw [h1] at h2
  exact Option.some.inj h2

theorem Runs.zero {bs : List UInt8} {c : Bool} {s : Rs} : Runs bs 0 c s (.ok s) := ⟨0, rfl⟩
theorem Runs.bad {bs : List UInt8} {k e p : Nat} {c : Bool} {s : Rs} (h : oneD bs (push c k s) = .bad e p) : Runs bs (k + 1) c s (.bad e p) := ⟨1, by rw [kidsD, h]⟩
theorem Runs.step {bs : List UInt8} {k k1 : Nat} {c c1 : Bool} {s s1 s2 : Rs} {r : Res Rs} (h : oneD bs (push c k s) = .ok (s1, k1, c1)) (h1 : Runs bs k1 c1 s1 (.ok s2)) (h2 : Runs bs k c s2 r) : Runs bs (k + 1) c s r := by
  obtain ⟨f, hf⟩ := h1
  obtain ⟨g, hg⟩ := h2
  refine ⟨max f g + 1, ?_⟩
  rw [kidsD, h]
  simp only
  rw [kids_le bs hf (Nat.le_max_left f g)]
  exact kids_le bs hg (Nat.le_max_right f g)
theorem Runs.stop {bs : List UInt8} {k k1 e p : Nat} {c c1 : Bool} {s s1 : Rs} (h : oneD bs (push c k s) = .ok (s1, k1, c1)) (h1 : Runs bs k1 c1 s1 (.bad e p)) : Runs bs (k + 1) c s (.bad e p) := by
  obtain ⟨f, hf⟩ := h1
  refine ⟨f + 1, ?_⟩
  rw [kidsD, h]
  simp only
  rw [hf]

theorem push_pos (c : Bool) (k : Nat) (s : Rs) : (push c k s).pos = s.pos ∧ (push c k s).cells = s.cells := by unfold push; split <;> exact ⟨rfl, rfl⟩

/-- There is always an answer; what was read goes on. -/
theorem kids_total (bs : List UInt8) : ∀ (f k : Nat) (c : Bool) (s : Rs), bs.length + 1 ≤ s.pos + f → s.pos ≤ bs.length → ∃ r, kidsD bs f k c s = some r ∧ ∀ s', r = .ok s' → s.pos ≤ s'.pos ∧ s'.pos ≤ bs.length
  | f, 0, c, s, _, hp => ⟨.ok s, by simp [kidsD], fun s' h => by cases h; exact ⟨Nat.le_refl _, hp⟩⟩
  | 0, k + 1, c, s, h, hp => by omega
  | f + 1, k + 1, c, s, h, hp => by
    rw [kidsD]
    cases h1 : oneD bs (push c k s) with
    | bad e p => exact ⟨_, rfl, fun s' h => by cases h⟩
    | ok x =>
      obtain ⟨s1, k1, c1⟩ := x
      have ho := oneD_ok h1
      rw [(push_pos c k s).1] at ho
      simp only
      obtain ⟨r1, h2, h3⟩ := kids_total bs f k1 c1 s1 (by omega) ho.2.1
      rw [h2]
      cases r1 with
      | bad e p => exact ⟨_, rfl, fun s' h => by cases h⟩
      | ok s2 =>
        have h4 := h3 s2 rfl
        obtain ⟨r, h5, h6⟩ := kids_total bs f k c s2 (by omega) h4.2
        exact ⟨r, h5, fun s' hs => by have := h6 s' hs; omega⟩

theorem Runs.total (bs : List UInt8) (k : Nat) (c : Bool) (s : Rs) (hp : s.pos ≤ bs.length) : ∃ r, Runs bs k c s r := by
  obtain ⟨r, h, _⟩ := kids_total bs (bs.length + 1) k c s (by omega) hp
  exact ⟨r, _, h⟩

/-- What is read. -/
def decD (bs : List UInt8) : Res (List Ce) :=
  if 1048576 < bs.length then .bad 4 0
  else if bs.length = 0 ∨ bs.head? ≠ some 131 then .bad 60 0
  else match kidsD bs (bs.length + 1) 1 false ⟨1, 0, []⟩ with
    | some (.ok s) => if s.pos < bs.length then .bad 63 s.pos else .ok s.out
    | some (.bad e p) => .bad e p
    | none => .bad 0 0
end Go.Proofs.YtkhjdcnlpablkaaDoor
