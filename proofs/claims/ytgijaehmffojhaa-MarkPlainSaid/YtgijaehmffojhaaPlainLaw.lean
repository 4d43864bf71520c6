/- MarkPlain: scans that look for one word: the same is taken as from a plain mailbox. -/
import Derived.Test.YtgijaehmffojhaaScan
import Derived.Deep.DeepCutAuto
namespace Go.Proofs.Ytgijaehmffojhaa
open Go.RowKit Go.Shelf
set_option linter.unusedVariables false
attribute [local go_sem] Oper.semAt_some

theorem found_eq {l : List Int} {m : Int} {k k' : Nat} (h1 : l[k]? = some m) (h2 : NoneTo l m k) (h3 : l[k']? = some m) (h4 : NoneTo l m k') : k' = k := by
  rcases Nat.lt_trichotomy k k' with h | h | h
  · exact absurd h1 (h4 k h)
  · exact h.symm
  · exact absurd h3 (h2 k' h)

theorem marked_found (p : Nat) (ex : Int) (ns : List (Nat × Int)) (l : List Int) (mv : Value) (on : Bool) (c : Nat) (m : Int) (w : World) (hb : Mb w p mv ⟨ns, 32, on, c, 0, [], ex⟩) (hn : Hid (ns.map (·.2) = l)) (hl : l.length ≤ 32) (hc : c ≤ l.length) (hno : NoneTo l m c) (h0 : 0 ≤ ex) (h1 : ex ≤ 576460752303423488)
    (k : Nat) (hk : l[k]? = some m) (hk' : NoneTo l m k) :
    Calls Try.prog 34 #[.pointer (some ⟨p, 0, none⟩), .int .u64 m] w fun e w' => e = .returned (.tuple #[.int .u64 m, .bool true]) ∧ c ≤ k ∧ MPost p ns mv ⟨ns, 32, true, k + 1, 0, [], ex + ((k + 1 - c : Nat) : Int)⟩ w w' := by
  refine (marked_scan p ex ns l mv on c m w hb hn hl hc hno h0 h1).mono ?_
  rintro e w' (⟨k1, h2, h3, h4, h5, h6⟩ | ⟨h2, _⟩)
  · obtain rfl := found_eq hk hk' h3 h4
    exact ⟨h5, h2, h6⟩
  · exact absurd hk (h2 k (List.getElem?_eq_some_iff.1 hk).1)

theorem marked_none (p : Nat) (ex : Int) (ns : List (Nat × Int)) (l : List Int) (mv : Value) (on : Bool) (c : Nat) (m : Int) (w : World) (hb : Mb w p mv ⟨ns, 32, on, c, 0, [], ex⟩) (hn : Hid (ns.map (·.2) = l)) (hl : l.length ≤ 32) (hc : c ≤ l.length) (hno : NoneTo l m c) (h0 : 0 ≤ ex) (h1 : ex ≤ 576460752303423488)
    (hk' : NoneTo l m l.length) :
    Calls Try.prog 34 #[.pointer (some ⟨p, 0, none⟩), .int .u64 m] w fun e w' => e = .returned (.tuple #[.int .u64 0, .bool false]) ∧ MPost p ns mv ⟨ns, 32, true, l.length, 0, [], ex + ((l.length - c : Nat) : Int)⟩ w w' := by
  refine (marked_scan p ex ns l mv on c m w hb hn hl hc hno h0 h1).mono ?_
  rintro e w' (⟨k1, h2, h3, h4, h5, h6⟩ | ⟨h2, h3, h4⟩)
  · exact absurd h3 (hk' k1 (List.getElem?_eq_some_iff.1 h3).1)
  · exact ⟨h3, h4⟩

def putl (l : List Int) (x : Int) : List Int := if l.length < 32 then l ++ [x] else l
def putc (l : List Int) : Int := if l.length < 32 then 0 else 110

theorem Plain.Put_u (p : Nat) (at_ : Nat) (ex x : Int) (l : List Int) (sl : Value) (w : World) (hb : Plain.Box w p 32 at_ ex l sl) (hl : l.length ≤ 32) :
    Calls Try.prog 37 #[.pointer (some ⟨p, 0, none⟩), .int .u64 x] w fun e w' => e = .returned (.int .i64 (putc l)) ∧ Plain.BoxPost p 32 at_ ex (putl l x) sl w w' := by
  unfold putc putl
  by_cases h : l.length < 32
  · rw [if_pos h, if_pos h]
    exact Plain.Put_room p 32 at_ ex x l sl w hb (by omega) (by omega)
  · rw [if_neg h, if_neg h]
    exact Plain.Put_full p 32 at_ ex x l sl w hb (by omega)

theorem Put_u (p : Nat) (ns : List (Nat × Int)) (on : Bool) (c : Nat) (ex x : Int) (l : List Int) (mv : Value) (w : World) (hb : Mb w p mv ⟨ns, 32, on, c, 0, [], ex⟩) (hn : Hid (ns.map (·.2) = l)) (hnl : ns.length = l.length) (hl : l.length ≤ 32) :
    Calls Try.prog 10 #[.pointer (some ⟨p, 0, none⟩), .int .u64 x] w fun e w' => e = .returned (.int .i64 (putc l)) ∧ ∃ ns', MPost p ns mv ⟨ns', 32, on, c, 0, [], ex⟩ w w' ∧ Hid (ns'.map (·.2) = putl l x) ∧ ns'.length = (putl l x).length := by
  unfold putc putl
  by_cases h : l.length < 32
  · rw [if_pos h, if_pos h]
    refine (Put_room p mv _ x w hb (by show ns.length ≤ 1000; omega) (by show (ns.length : Int) < 32; omega)).mono ?_
    rintro e w' ⟨rfl, N, hp⟩
    exact ⟨rfl, ns ++ [(N, x)], hp, Lib.hid (by rw [List.map_append, hn.out]; rfl), by simp; omega⟩
  · rw [if_neg h, if_neg h]
    refine (Put_full p mv _ x w hb (by show (32 : Int) ≤ (ns.length : Int); omega)).mono ?_
    rintro e w' ⟨rfl, hp⟩
    exact ⟨rfl, ns, hp, hn, hnl⟩

theorem putl_len {l : List Int} {x : Int} (hl : l.length ≤ 32) : l.length ≤ (putl l x).length ∧ (putl l x).length ≤ 32 := by
  unfold putl
  split
  · simp; omega
  · omega

theorem NoneTo.put {l : List Int} {m x : Int} (h : NoneTo l m l.length) : NoneTo (putl l x) m l.length := by
  unfold putl
  split
  · intro j hj
    rw [List.getElem?_append_left hj]
    exact h j hj
  · exact h

/-- The two mailboxes, apart. -/
structure Two (B : Nat) (w0 w : World) (p : Nat) (at_ : Nat) (ea : Int) (l : List Int) (sl : Value) (q : Nat) (mv : Value) (X : Bx) : Prop where
  a : Plain.Box w p 32 at_ ea l sl
  m : Mb w q mv X
  dis : ∀ k, Plain.bf p sl k → ¬ mf q X.ns mv k
  la : ∀ k, Plain.bf p sl k → B ≤ k
  lm : ∀ k, mf q X.ns mv k → B ≤ k
  below : Below B w0 w
  size : B ≤ w.heap.size

theorem Two.stepA {B : Nat} {w0 w w' : World} {p at_ at' : Nat} {ea ea' : Int} {l l' : List Int} {sl : Value} {q : Nat} {mv : Value} {X : Bx} (h : Two B w0 w p at_ ea l sl q mv X) (hp : Plain.BoxPost p 32 at' ea' l' sl w w') :
    ∃ sl', Two B w0 w' p at' ea' l' sl' q mv X := by
  obtain ⟨sl', hb, hf, hg⟩ := hp
  have hs := h.size
  refine ⟨sl', hb, h.m.keep hf (fun k hk hb => h.dis k hb hk), fun k hk hm => ?_, fun k hk => ?_, h.lm, h.below.trans (hf.below h.size h.la), Nat.le_trans h.size hf.size⟩
  · rcases hg k hk with x | x
    · exact h.dis k x hm
    · have := h.m.lt k hm; omega
  · rcases hg k hk with x | x
    · exact h.la k x
    · omega

theorem Two.stepM {B : Nat} {w0 w w' : World} {p at_ : Nat} {ea : Int} {l : List Int} {sl : Value} {q : Nat} {mv : Value} {X Y : Bx} (h : Two B w0 w p at_ ea l sl q mv X) (hp : MPost q X.ns mv Y w w') :
    ∃ mv', Two B w0 w' p at_ ea l sl q mv' Y := by
  obtain ⟨mv', hb, hf, hg⟩ := hp
  have hs := h.size
  refine ⟨mv', h.a.keep hf (fun k hk hm => h.dis k hk hm), hb, fun k hk hm => ?_, h.la, fun k hk => ?_, h.below.trans (hf.below h.size h.lm), Nat.le_trans h.size hf.size⟩
  · rcases hg k hm with x | x
    · exact h.dis k hk x
    · have := h.a.lt k hk; omega
  · rcases hg k hk with x | x
    · exact h.lm k x
    · omega

theorem Two.bel {B : Nat} {w0 w w' : World} {p at_ : Nat} {ea : Int} {l : List Int} {sl : Value} {q : Nat} {mv : Value} {X : Bx} (h : Two B w0 w p at_ ea l sl q mv X) (hb : Below w.heap.size w w') : Two B w0 w' p at_ ea l sl q mv X :=
  ⟨h.a.keep (bel_fr0 hb) (fun _ _ h => h), h.m.keep (bel_fr0 hb) (fun _ _ h => h), h.dis, h.la, h.lm, h.below.trans (hb.mono h.size), Nat.le_trans h.size hb.size⟩

/-- Between two tries: none of the first c is m. -/
def Mid (B : Nat) (w0 w : World) (p q : Nat) (m : Int) (hi : Int) : Prop :=
  ∃ l sl ns mv on c ea eb, Two B w0 w p 0 ea l sl q mv ⟨ns, 32, on, c, 0, [], eb⟩ ∧ Hid (ns.map (·.2) = l) ∧ ns.length = l.length ∧ l.length ≤ 32 ∧ c ≤ l.length ∧ NoneTo l m c ∧ 0 ≤ eb ∧ eb ≤ ea ∧ ea ≤ hi

/-- Between two words. -/
def Fin (B : Nat) (w0 w : World) (p q : Nat) (hi : Int) : Prop :=
  ∃ l sl ns mv ea eb, Two B w0 w p 0 ea l sl q mv ⟨ns, 32, false, 0, 0, [], eb⟩ ∧ Hid (ns.map (·.2) = l) ∧ ns.length = l.length ∧ l.length ≤ 32 ∧ 0 ≤ eb ∧ eb ≤ ea ∧ ea ≤ hi

theorem Fin.mid {B : Nat} {w0 w : World} {p q : Nat} {hi : Int} (h : Fin B w0 w p q hi) (m : Int) : Mid B w0 w p q m hi := by
  obtain ⟨l, sl, ns, mv, ea, eb, h1, h2, h3, h4, h5, h6, h7⟩ := h
  exact ⟨l, sl, ns, mv, false, 0, ea, eb, h1, h2, h3, h4, by omega, fun j hj => absurd hj (by omega), h5, h6, h7⟩

theorem Fin.made (w w2 : World) (hm : Mb w2 (w.heap.size + 1) (.slice none 0 0) (Bx.made 32)) (hb : Below (w.heap.size + 1) (w.alloc (Plain.newObj 32)) w2) : Fin w.heap.size w w2 w.heap.size (w.heap.size + 1) 0 := by
  have h1 := Plain.BoxIn.new w 32
  have hs : (w.alloc (Plain.newObj 32)).heap.size = w.heap.size + 1 := by simp
  have hb' : Below (w.alloc (Plain.newObj 32)).heap.size (w.alloc (Plain.newObj 32)) w2 := by rw [hs]; exact hb
  refine ⟨[], _, [], _, 0, 0, ⟨h1.box.keep (bel_fr0 hb') (fun _ _ h => h), hm, fun k hk hm => ?_, h1.lies, fun k hk => ?_, h1.below.trans (hb'.mono h1.size), Nat.le_trans h1.size hb'.size⟩, Lib.hid rfl, rfl, by simp, by omega, by omega, by omega⟩
  · have := h1.box.lt k hk
    rcases hm with (e | hm) | hm
    · omega
    · simp at hm
    · simp [Value.ownBlock] at hm
  · rcases hk with (e | hk) | hk
    · omega
    · simp at hk
    · simp [Value.ownBlock] at hk

theorem Rd.cellAt {w w' : World} {B b off n cap : Nat} {xs : List Value} {j : Nat} {x : Value} (h : Rd w 1 (.slice (some ⟨b, off, none⟩) n cap) n xs) (hsz : w.heap.size ≤ B) (hb : Below B w w') (hj : j < n) (hx : xs[j]? = some x) : w'.cell? ⟨b, off + j, none⟩ = some x := by
  obtain ⟨g, o, c, hv, _, _, hc⟩ := (h.below hsz hb).at (by omega)
  simp at hv
  obtain ⟨⟨rfl, rfl⟩, _⟩ := hv
  rw [hc j (by omega), hx]

/-- The law for a loop over an iterator, the round's frame made from the loop's own. -/
theorem ownG_at {F : Fence} {n : Nat} {P : Program} {α : Type} {g : Operand} {ps : Array Tmp} {assign body : Code} {Q : Exit → Act → World → Prop} {a : Act} {w : World}
    (hro : F.round = none) (h1 : 1 ≤ n) {gf : Nat} {lb : Array Value} (hg : a.eval g = .func (.func gf) #[] lb) (hFg : F.fn gf) (eg : ∀ args w, (callFunc gf args).run P w = .ok (.enter gf args) w)
    {encs : α → Array Value} {Kp : World → World → Prop} {S Sp : List α → Prop} {N : Nat} {w0 : World} (hseq : SeqStopsK F (n - 1) P gf lb encs Kp S Sp N w0)
    (hKt : ∀ {A B C : World}, Kp A B → Kp B C → Kp A C) (hKb : ∀ (W : World) (l : Nat) (o o' : Obj), w.heap.size ≤ l → W.heap[l]? = some o → o.isCells = false → o.isWalk = false → Kp W (W.putObj l o')) (hb0 : Below w0.heap.size w0 w) (hps : ∀ x, (encs x).size = ps.size)
    (I : List α → World → Prop) (Ix : Code → List α → World → Prop) (hI : OwnFrom w.heap.size I) (hIx : ∀ c, OwnFrom w.heap.size (Ix c)) (h0 : I [] w) (a₁ : Act → α → Act)
    (hassign : ∀ (l : Nat) (x : α) (W : World) (K : Act → World → Prop), K (a₁ a x) W →
      assign.wpIn (F.inRound l) (n - 1 - 1) P (Exit.then K (fun _ _ _ => False)) { tmps := (ps.zip (encs x)).foldl (fun t (p, v) => t.setIfInBounds p v) a.tmps, defers := [] } W)
    (hbody : ∀ (l : Nat) (pre : List α) (x : α) (W : World), I pre W → pre.length < N → body.wpIn (F.inRound l) (n - 1 - 1) P (ownPostG w.heap.size Kp I Ix (pre ++ [x]) W) (a₁ a x) W)
    (hdone : ∀ (D : Nat) (xs : List α) (W : World), w.heap.size ≤ D → S xs → I xs W → W.heap[D]? = some (.deferred (some [])) → Q .normal { a with defers := { target := .collected D, args := #[] } :: a.defers } W)
    (hstop : ∀ (D : Nat) (c : Code) (pre : List α) (W : World), w.heap.size ≤ D → Sp pre → Ix c pre W → W.heap[D]? = some (.deferred (some [])) → c.wpIn F n P Q { a with defers := { target := .collected D, args := #[] } :: a.defers } W) :
    (Code.rangeFunc g ps assign body).wpIn F n P Q a w :=
  wpIn_rangeFunc_ownG hro h1 hg hFg eg hseq hKt hKb hb0 hps I Ix hI hIx h0 (a₁ a) hassign hbody hdone hstop

theorem seq_is (w : World) (f : Nat) (c : Array Value) : (binOp .neq 62 (.func (.func f) #[] c) .nilFunc).run Try.prog w = .ok (.bool true) w := by
  simp only [binOp]
  simp [Op.equal, Op.maxDepth, seq_not_nilIn w 9999 f c]

theorem Plain.allf_any (p : Option Addr) (w : World) : Calls Try.prog 41 #[.pointer p] w fun e w' => e = .returned (.func (.func 58) #[] #[.pointer (some ⟨w.heap.size, 0, none⟩)]) ∧ w' = w.alloc (.cells #[.pointer p] 57) :=
  callsIn_wide.1 (Plain.allf_in Fence.wide 3 trivial rfl p w)

/-- A body that never panics. -/
def retPost (F : Fence) (n : Nat) (P : Program) (fn : Func) (R : Ending → World → Prop) : Exit → Act → World → Prop
  | .ret, a, w => bodyPostM F n P fn R .ret a w
  | _, _, _ => False

theorem retPost.to {F : Fence} {n : Nat} {P : Program} {fn : Func} {R : Ending → World → Prop} : ∀ e a w, retPost F n P fn R e a w → bodyPostM F n P fn R e a w
  | .ret, _, _, h => h
  | .normal, _, _, h => h.elim
  | .panic _, _, _, h => h.elim
  | .outgrown, _, _, h => h.elim

set_option maxHeartbeats 6400000 in
set_option maxRecDepth 100000 in
theorem plain_walk (a0 : Option Addr) (n0 c0 : Nat) (l0 : List Int) (a1 : Option Addr) (n1 c1 : Nat) (l1 : List Int) (w : World) (h0 : Rd w 1 (.slice a0 n0 c0) n0 (u64s l0)) (h1 : Rd w 1 (.slice a1 n1 c1) n1 (u64s l1)) (hn1 : n1 ≤ 140737488355328) :
    Calls Try.prog 8 #[.slice a0 n0 c0, .slice a1 n1 c1] w fun e w' => e = .returned (.bool true) ∧ Below w.heap.size w w' := by
  obtain ⟨i0, hinf, hz0, hz1, hz2⟩ := info_parts Try.info26
  obtain ⟨B, hB⟩ : ∃ B, w.heap.size = B := ⟨_, rfl⟩
  obtain ⟨_, _, hv0, hc0, hm0⟩ := h0.shape
  obtain ⟨_, _, hv1, hc1, hm1⟩ := h1.shape
  simp at hv0 hv1
  obtain ⟨rfl, rfl⟩ := hv0
  obtain ⟨rfl, rfl⟩ := hv1
  unfold maxLen at hm0 hm1
  refine callsIn_wide (n := 3).1 (callsIn_of_wp_marks Try.func8 rfl trivial ?_ rfl)
  simp only [Try.ntmps8, List.size_toArray, List.length_cons, List.length_nil, Nat.reduceAdd, Nat.reduceSub, Array.replicate_succ, Array.replicate_zero, List.push_toArray, List.append_toArray, List.nil_append, List.cons_append]
  refine wpIn_mono ?_ retPost.to
  refine wpIn_wide.2 ?_
  go_wp2_with fail
  refine (Plain.New_ok 32 _ (by omega) (by omega)).mono ?_
  rintro e w1 ⟨rfl, rfl⟩
  go_wp2_with fail
  refine (New_ok 32 _ (by omega) (by omega)).mono ?_
  rintro e w2 ⟨rfl, hq, hb⟩
  have hF : Fin B w w2 B (B + 1) 0 := by
    subst hB
    exact Fin.made w w2 (by simpa using hq) (by simpa using hb)
  rw [show (w.alloc (Plain.newObj 32)).heap.size = B + 1 by simp [hB]]
  have HB := Lib.hid hB
  have hsz : w.heap.size ≤ B := by omega
  clear hq hb hB
  have hl0 : l0.length = n0 := by simpa [u64s] using h0.len
  have hl1 : l1.length = n1 := by simpa [u64s] using h1.len
  have HL0 := Lib.hid hl0
  have HL1 := Lib.hid hl1
  clear hl0 hl1
  go_upto_block 0 with fail
  go_cut [] from 7 (fun wx => Fin B w wx B (B + 1) (1320 * (n1 : Int)))
  case first =>
    go_wp2_with fail
    go_loopg [7, 32] n1 (fun g s7 s32 wr => ∃ k j : Nat, k + g = n1 ∧ j ≤ n0 ∧ s32 = .int .i64 k ∧ s7 = .int .i64 j ∧ Fin B w wr B (B + 1) (1320 * (k : Int)))
    case atStart => exact ⟨0, 0, by omega, by omega, rfl, rfl, hF⟩
    case round =>
      clear hF
      obtain ⟨k, j, hk, hj, rfl, rfl, hF⟩ := hrel
      cases gk with
      | zero =>
        obtain rfl : k = n1 := by omega
        go_wp2_with fail
        go_meet
        case rel => exact hF
      | succ g =>
        obtain ⟨m, hm⟩ : ∃ x, l1[k]? = some x := ⟨l1[k]'(by have := HL1.out; omega), List.getElem?_eq_getElem _⟩
        have hbel : Below B w wr := by obtain ⟨_, _, _, _, _, _, h, _⟩ := hF; exact h.below
        obtain ⟨b, off, cap', hv', _, _, hcell⟩ := (h1.below hsz hbel).at (by omega)
        simp at hv'
        obtain ⟨rfl, rfl⟩ := hv'
        have hck := hcell k (by omega)
        rw [u64s_at hm] at hck
        clear hcell hm hbel
        have hkn : k < n1 := by omega
        go_upto_block 2 with fail
        go_cut [7, 10, 11, 12, 13, 14, 15, 16, 17, 18] from 33 to 122 (fun s7 s10 s11 s12 s13 s14 s15 s16 s17 s18 wx => ∃ j : Nat, j ≤ n0 ∧ s7 = .int .i64 j ∧ Mid B w wx B (B + 1) m (1320 * ((k : Int) + 1)))
        case first =>
          clear hck
          go_wp2_with fail
          go_loopg [7, 10] 40 (fun g s7 s10 wr => ∃ t j : Nat, t + g = 40 ∧ j ≤ n0 ∧ s10 = .int .i64 t ∧ s7 = .int .i64 j ∧ Mid B w wr B (B + 1) m (1320 * (k : Int) + 33 * (t : Int)))
          case atStart => exact ⟨0, j, by omega, by omega, rfl, rfl, by simpa using hF.mid m⟩
          case round =>
            clear hF
            obtain ⟨t, j, ht, hj, rfl, rfl, hM⟩ := hrel
            cases gk with
            | zero =>
              obtain rfl : t = 40 := by omega
              go_wp2_with fail
              go_meet
              case rel => exact ⟨j, by omega, rfl, by rw [show 1320 * ((k : Int) + 1) = 1320 * (k : Int) + 33 * ((40 : Nat) : Int) by omega]; exact hM⟩
            | succ g =>
              obtain ⟨l, sl, ns, mv, on, c, ea, eb, hT, hw, hnl, hl, hc, hno, hb0, hba, hai⟩ := hM
              go_wp2_with fail
              refine (plain_scan B ea l sl m _ hT.a hl (by omega) (by omega)).mono ?_
              rintro e w3 (⟨kf, hkf, hnf, rfl, hp⟩ | ⟨hnf, rfl, hp⟩)
              · have hkl := (List.getElem?_eq_some_iff.1 hkf).1
                obtain ⟨sl3, hT3⟩ := hT.stepA hp
                clear hp hT
                go_wp2_with fail
                refine (marked_found (B + 1) eb ns l mv on c m _ hT3.m hw hl hc hno hb0 (by omega) kf hkf hnf).mono ?_
                rintro e w4 ⟨rfl, hckf, hp⟩
                obtain ⟨mv4, hT4⟩ := hT3.stepM (X := ⟨ns, 32, on, c, 0, [], eb⟩) hp
                obtain ⟨⟨bn, x⟩, hbn⟩ : ∃ y, ns[kf]? = some y := ⟨ns[kf]'(by omega), List.getElem?_eq_getElem _⟩
                obtain rfl : x = m := by
                  have := hkf
                  rw [← hw.out, List.getElem?_map, hbn] at this
                  simpa using this
                have HBN := Lib.hid hbn
                have HKF := Lib.hid hkf
                clear hp hT3 hno hnf hbn hkf
                go_wp2_with fail
                refine (Plain.Take_some B 32 kf _ l sl3 _ hT4.a x HKF.out (by omega)).mono ?_
                rintro e w5 ⟨rfl, hp⟩
                obtain ⟨sl5, hT5⟩ := hT4.stepA hp
                clear hp hT4
                go_wp2_with fail
                refine (Take_some (B + 1) _ _ _ hT5.m (by show 0 < kf + 1; omega) (by show ns.length ≤ 1000; omega) bn x (by show ns[kf + 1 - 1]? = _; rw [Nat.add_sub_cancel]; exact HBN.out)).mono ?_
                rintro e w6 ⟨rfl, hp⟩
                obtain ⟨mv6, hT6⟩ := hT5.stepM hp
                have hT7 : Two B w w6 B 0 (ea + ((kf + 1 : Nat) : Int)) (l.take kf ++ l.drop (kf + 1)) sl5 (B + 1) mv6 ⟨ns.eraseIdx kf, 32, false, 0, 0, [], eb + ((kf + 1 - c : Nat) : Int)⟩ := by
                  have := hT6
                  unfold Bx.taken at this
                  rw [show kf + 1 - 1 = kf from Nat.add_sub_cancel ..] at this
                  exact this
                have HM : Hid (Mid B w w6 B (B + 1) x (1320 * ((k : Int) + 1))) :=
                  ⟨_, _, _, _, _, 0, _, _, hT7, Lib.hid (by rw [map_erase, hw.out]), by rw [List.length_eraseIdx_of_lt (by omega)]; simp; omega, by simp; omega, by omega, fun j hj => absurd hj (by omega), by omega, by omega, by omega⟩
                clear hp hT5 hT6 hT7
                go_wp2_with fail
                go_meet
                case rel => exact ⟨j, by omega, rfl, HM.out⟩
              · obtain ⟨sl3, hT3⟩ := hT.stepA hp
                clear hp hT
                go_wp2_with fail
                refine (marked_none (B + 1) eb ns l mv on c m _ hT3.m hw hl hc hno hb0 (by omega) hnf).mono ?_
                rintro e w4 ⟨rfl, hp⟩
                obtain ⟨mv4, hT4⟩ := hT3.stepM (X := ⟨ns, 32, on, c, 0, [], eb⟩) hp
                have HNF := Lib.hid hnf
                clear hp hT3 hno hnf
                go_wp2_with fail
                refine (Plain.Wait_any B 32 _ _ l sl3 _ hT4.a).mono ?_
                rintro e w5 ⟨rfl, hp⟩
                obtain ⟨sl5, hT5⟩ := hT4.stepA hp
                clear hp hT4
                go_wp2_with fail
                refine (Wait_any _ _).mono ?_
                rintro e w6 ⟨rfl, rfl⟩
                by_cases hjn : n0 ≤ j
                · have HM : Hid (Mid B w w6 B (B + 1) m (1320 * ((k : Int) + 1))) :=
                    ⟨l, _, ns, _, _, l.length, _, _, hT5, hw, hnl, hl, Nat.le_refl _, HNF.out, by omega, by omega, by omega⟩
                  clear hT5
                  go_wp2_with fail
                  go_meet
                  case rel => exact ⟨j, by omega, rfl, HM.out⟩
                · obtain ⟨x, hx⟩ : ∃ x, l0[j]? = some x := ⟨l0[j]'(by have := HL0.out; omega), List.getElem?_eq_getElem _⟩
                  obtain ⟨b0, off0, cap0, hv0, _, _, hcell⟩ := (h0.below hsz hT5.below).at (by omega)
                  simp at hv0
                  obtain ⟨rfl, rfl⟩ := hv0
                  have HX := Lib.hid (u64s_at hx)
                  have hjl : j < n0 := by omega
                  obtain ⟨rc, hrc⟩ : ∃ rc, putc l = rc := ⟨_, rfl⟩
                  have HRC := Lib.hid hrc
                  clear hcell hx hrc
                  go_upto_region 23 with fail
                  have hT6 := hT5.bel (bel_drew _)
                  have k1 := h0.cellAt hsz hT6.below hjl HX.out
                  clear hT5
                  refine wp_region_ord (Ord.take 0 (.take 1 (.take 2 (.take 3 (.take 4 (.take 6 (.take 7 (.take 8 (.take 9 (.take 10 (.alone 5 (.alone 11 (.take 12 .done)))))))))))))
                    (fun W => W.cell? ⟨b0, off0 + j, none⟩ = some (.int .u64 x)) (by kernel_rfl) (by kernel_rfl) (by kernel_rfl) (fun c a d v w h => by cases d <;> exact h) k1 ?_
                  refine ord_take (o := ⟨some 91, _, _, _, _, none⟩) _ rfl (by rfl) (fun W hW => by (go_simp; with_reducible rfl)) ?_
                  simp only [Act.put, List.setIfInBounds_toArray, List.set_cons_zero, List.set_cons_succ]
                  refine ord_take (o := ⟨some 92, _, _, _, _, none⟩) _ rfl (by rfl) (fun W hW => by (go_simp; with_reducible rfl)) ?_
                  simp only [Act.put, List.setIfInBounds_toArray, List.set_cons_zero, List.set_cons_succ]
                  refine ord_take (o := ⟨some 93, _, _, _, _, none⟩) _ rfl (by rfl) (fun W hW => by (go_simp; with_reducible rfl)) ?_
                  simp only [Act.put, List.setIfInBounds_toArray, List.set_cons_zero, List.set_cons_succ]
                  refine ord_take (o := ⟨some 94, _, _, _, _, none⟩) _ rfl (by rfl) (fun W hW => by (go_simp; with_reducible rfl)) ?_
                  simp only [Act.put, List.setIfInBounds_toArray, List.set_cons_zero, List.set_cons_succ]
                  refine ord_take (o := ⟨some 95, _, _, _, _, none⟩) _ rfl (by rfl) (fun W hW => by (go_simp; with_reducible rfl)) ?_
                  simp only [Act.put, List.setIfInBounds_toArray, List.set_cons_zero, List.set_cons_succ]
                  refine ord_take (o := ⟨some 97, _, _, _, _, none⟩) _ rfl (by rfl) (fun W hW => by (go_simp; with_reducible rfl)) ?_
                  simp only [Act.put, List.setIfInBounds_toArray, List.set_cons_zero, List.set_cons_succ]
                  refine ord_take (o := ⟨some 98, _, _, _, _, none⟩) _ rfl (by rfl) (fun W hW => by (go_simp; with_reducible rfl)) ?_
                  simp only [Act.put, List.setIfInBounds_toArray, List.set_cons_zero, List.set_cons_succ]
                  refine ord_take (o := ⟨some 99, _, _, _, _, none⟩) _ rfl (by rfl) (fun W hW => by (go_simp; with_reducible rfl)) ?_
                  simp only [Act.put, List.setIfInBounds_toArray, List.set_cons_zero, List.set_cons_succ]
                  refine ord_take (o := ⟨some 100, _, _, _, _, none⟩) _ rfl (by rfl) (fun W hW => by (go_simp; with_reducible rfl)) ?_
                  simp only [Act.put, List.setIfInBounds_toArray, List.set_cons_zero, List.set_cons_succ]
                  refine ord_take (o := ⟨some 101, _, _, _, _, none⟩) _ rfl (by rfl) (fun W hW => by (go_simp; with_reducible rfl)) ?_
                  simp only [Act.put, List.setIfInBounds_toArray, List.set_cons_zero, List.set_cons_succ]
                  refine ord_alone (o := ⟨some 96, _, _, _, _, none⟩) rfl (by rfl) (fun K hK => ?_)
                  go_simp
                  refine (Plain.Put_u B _ _ x l _ _ hT6.a hl).mono ?_
                  rintro e w8 ⟨rfl, hp⟩
                  rw [HRC.out]
                  obtain ⟨sl8, hT8⟩ := hT6.stepA hp
                  have k2 := h0.cellAt hsz hT8.below hjl HX.out
                  refine hK _ _ k2 ?_
                  clear hp hK K k1 hT6
                  refine ord_alone (o := ⟨some 102, _, _, _, _, none⟩) rfl (by rfl) (fun K hK => ?_)
                  go_simp
                  refine (Put_u (B + 1) ns _ _ _ x l _ _ hT8.m hw hnl hl).mono ?_
                  rintro e w9 ⟨rfl, ns9, hp, hw9, hnl9⟩
                  rw [HRC.out]
                  obtain ⟨mv9, hT9⟩ := hT8.stepM (X := ⟨ns, 32, true, l.length, 0, [], _⟩) hp
                  have k1 := h0.cellAt hsz hT9.below hjl HX.out
                  refine hK _ _ k1 ?_
                  clear hp hK K k2 hT8
                  refine ord_take (o := ⟨some 103, _, _, _, _, none⟩) _ rfl (by rfl) (fun W hW => by (go_simp; with_reducible rfl)) ?_
                  simp only [Act.put, List.setIfInBounds_toArray, List.set_cons_zero, List.set_cons_succ]
                  refine ord_done ?_
                  have hll := putl_len (x := x) hl
                  have HM : Hid (Mid B w w9 B (B + 1) m (1320 * (k : Int) + 33 * ((t + 1 : Nat) : Int))) :=
                    ⟨_, _, _, _, _, l.length, _, _, hT9, hw9, hnl9, hll.2, hll.1, HNF.out.put, by omega, by omega, by omega⟩
                  clear hT9 hw9 hnl9 hll k1
                  go_wp2_with fail
                  go_roundg g
                  case measure => omega
                  case rel => exact ⟨t + 1, j + 1, by omega, by omega, by go_num, by go_num, HM.out⟩
        case rest =>
          clear hF hck
          obtain ⟨j, hj, rfl, l, sl, ns, mv, on, c, ea, eb, hT, hw, hnl, hl, _, _, hb0, hba, hai⟩ := hcut
          go_wp2_with fail
          refine (Plain.Stop_any B 32 _ _ l sl _ hT.a).mono ?_
          rintro e w3 ⟨rfl, hp⟩
          obtain ⟨sl3, hT3⟩ := hT.stepA hp
          clear hp hT
          go_wp2_with fail
          refine (Stop_any (B + 1) mv _ _ hT3.m).mono ?_
          rintro e w4 ⟨rfl, hp⟩
          obtain ⟨mv4, hT4⟩ := hT3.stepM hp
          have hT5 : Two B w w4 B 0 ea l sl3 (B + 1) mv4 ⟨ns, 32, false, 0, 0, [], eb⟩ := hT4
          clear hp hT3 hT4
          go_wp2_with fail
          refine (Ex_any (B + 1) mv4 _ _ hT5.m).mono ?_
          rintro e w5 ⟨rfl, rfl⟩
          go_wp2_with fail
          refine (Plain.Examined_any B 32 _ _ l sl3 _ hT5.a).mono ?_
          rintro e w5 ⟨rfl, rfl⟩
          have hgt : ¬ ea < eb := by omega
          have hne : ((l.length : Int) == ((ns.length : Nat) : Int)) = true := by simp; omega
          go_wp2_with fail
          refine (Plain.Len_any B 32 _ _ l sl3 _ hT5.a).mono ?_
          rintro e w5 ⟨rfl, rfl⟩
          go_wp2_with fail
          refine (Len_any (B + 1) mv4 _ _ hT5.m).mono ?_
          rintro e w5 ⟨rfl, rfl⟩
          have HF : Hid (Fin B w w5 B (B + 1) (1320 * ((k + 1 : Nat) : Int))) := ⟨l, _, ns, _, _, _, hT5, hw, hnl, hl, hb0, hba, by omega⟩
          clear hT5
          go_wp2_with fail
          go_roundg g
          case measure => omega
          case rel => exact ⟨k + 1, j, by omega, by omega, by go_num, rfl, HF.out⟩
  case rest =>
    clear hF HL0 HL1 h0
    obtain ⟨l, sl, ns, mv, ea, eb, hT, hw, hnl, hl, _⟩ := hcut
    have hseq := seq_is
    go_wp2_with fail
    refine (Plain.allf_any _ _).mono ?_
    rintro e w3 ⟨rfl, rfl⟩
    go_wp2_with fail
    obtain ⟨L, hL⟩ : ∃ L, wc.heap.size = L := ⟨_, rfl⟩
    obtain ⟨W0, hW0⟩ : ∃ W0, (wc.alloc (.cells #[.slice none 0 0] 22)).alloc (.cells #[.pointer (some ⟨B, 0, none⟩)] 57) = W0 := ⟨_, rfl⟩
    refine wpIn_wide (n := 3).1 ?_
    obtain ⟨F, hFw⟩ : ∃ F, F = Fence.wide := ⟨_, rfl⟩
    rw [← hFw]
    have hFn : ∀ k, F.fn k := by subst hFw; exact fun _ => trivial
    have hro : F.round = none := by subst hFw; rfl
    have hw' := Lib.hid hFw
    clear hFw
    have hl0 : W0.heap[L]? = some (.cells #[.slice none 0 0] 22 (0, 0)) := by
      subst hW0 hL; exact blk_alloc (heap_alloc_new wc _)
    have hn0 : W0.heap[L + 1]? = some (.cells #[.pointer (some ⟨B, 0, none⟩)] 57 (0, 0)) := by
      subst hW0 hL; have := heap_alloc_new (wc.alloc (.cells #[.slice none 0 0] 22)) (.cells #[.pointer (some ⟨B, 0, none⟩)] 57); rw [World.size_alloc] at this; exact this
    have hbel : Below L wc W0 := by
      subst hW0 hL; exact ((Below.refl _ wc).alloc (Nat.le_refl _) _).alloc (by simp) _
    have hs0 : L + 2 = W0.heap.size := by subst hW0 hL; simp
    have hf0 : Fr (fun _ => False) wc W0 := by subst hW0; exact ((Fr.refl _ wc).alloc _).alloc _
    have hst := Plain.all_stops F hw' (hFn 58) (hFn 59) hro (3 - 1) (L + 1) L B 32 0 ea l sl (by omega) W0 hn0 hl0 (hT.a.keep hf0 (fun _ _ h => h))
    rw [hL, hW0]
    have HS := Lib.hid hs0
    have HL := Lib.hid hL
    clear hW0 hf0 hs0 hL hseq
    have HT := Lib.hid hT
    clear hT
    refine ownG_at hro (by omega) (gf := 58) (lb := #[.pointer (some ⟨L + 1, 0, none⟩)]) rfl (hFn 58) (enters_of Try.func58 (by kernel_rfl) rfl)
      hst KpL.t (KpL.b (by have := HS.out; omega)) (Below.refl _ _) (fun _ => rfl)
      (fun pre W => (∃ v, W.heap[L]? = some (.cells #[v] 22 (0, 0)) ∧ Sl W 26 1 v pre.length (u64s pre) ∧ (∀ k, v.ownBlock = some k → L + 2 ≤ k)) ∧ Below L wc W ∧ L + 2 ≤ W.heap.size)
      (fun c pre W => False)
      ?hI ?hIx ?h0
      (fun a x => { tmps := (a.tmps.setIfInBounds 128 (.int .u64 x)).setIfInBounds 21 (.int .u64 x), defers := [] }) ?assign ?body ?done ?stop
    case hI =>
      rintro s W W' row ⟨⟨v, h1, h2, h3⟩, h5, h6⟩ hg hr
      have hr' := fun r e => (hr r e).2
      exact ⟨⟨v, own_blk h1 hg hr', own_sl h2 hg hr', h3⟩, h5.grown hg (by omega) (fun k e => by have := (hr k e).1; have := HS.out; omega), Nat.le_trans h6 hg.size⟩
    case hIx => exact fun c s W W' row h _ _ => h
    case h0 => exact ⟨⟨_, hl0, Sl.nil _ _ _, by simp [Value.ownBlock]⟩, hbel, by have := HS.out; omega⟩
    case assign =>
      intro l x W K hK
      simp only [List.setIfInBounds_toArray, List.set_cons_zero, List.set_cons_succ] at hK
      gi_wp2
      exact hK
    case body =>
      clear hl0 hn0 hbel hst
      rintro lo pre x W ⟨⟨v, h1, h2, h3⟩, h5, h6⟩ hlt
      obtain ⟨aov, capv, rfl, hcv, hmv⟩ := h2.shape
      have cl := blk_cell h1 0
      simp at cl
      have hsz := HS.out
      have hfr : Fr (fun k => k = L ∨ (Value.slice aov pre.length capv).ownBlock = some k) W (W.alloc (.cells #[.int .u64 x] 26)) := (Fr.refl _ _).alloc _
      have hother : KeepsOthers W (W.alloc (.cells #[.int .u64 x] 26)) := KeepsOthers.alloc _ _
      have hdis := h2.ne h1 (by decide)
      simp only [List.setIfInBounds_toArray, List.set_cons_zero, List.set_cons_succ]
      gi_wp2_with (gi_at_builtin; refine wpListIn_append_sl rfl (.tmp 129) (.tmp 131) 22 rfl 26 i0 (.int .u64 0) 1 8 Try.underlying22 hinf hz0 hz1 hz2 rfl (by decide) _ pre.length (u64s pre) rfl (h2.alloc _) ⟨W.heap.size, 0, none⟩ 1 1 [.int .u64 x] rfl rfl (cell_one_new _ _ _) (by simp [Value.oneCell']) (by unfold maxLen; omega) (by omega) ?nx)
      case nx =>
      intro v' w1 hs1 hf1 hv1
      obtain ⟨aov', capv', rfl, hcv', hmv'⟩ := hs1.shape
      have h1' := hf1.at (blk_alloc (o' := .cells #[.int .u64 x] 26) h1) (fun e => hdis _ e rfl)
      have hfr1 := hfr.trans (hf1.mono fun k hk => Or.inr hk)
      clear cl hfr hother hf1
      have cl := blk_cell h1' 0
      have fl := blk_free h1' 0
      simp at cl
      have hs2 := hs1.set_other (a := ⟨L, 0, none⟩) (.slice aov' (pre.length + 1) capv') (hs1.ne h1' (by decide))
      have h1'' := blk_set h1' 0 (.slice aov' (pre.length + 1) capv')
      have hfr2 := hfr1.setCell (p := ⟨L, 0, none⟩) (Or.inl (Or.inl rfl)) (.slice aov' (pre.length + 1) capv')
      have hown : ∀ k, (Value.slice aov' (pre.length + 1) capv').ownBlock = some k → (Value.slice aov pre.length capv).ownBlock = some k ∨ W.heap.size ≤ k := by
        intro k hk
        rcases hv1 with h | h
        · exact .inl (h ▸ hk)
        · rw [h] at hk; simp at hk; exact .inr (by omega)
      have HB2 := Lib.hid (hfr2.below (B := L) (by omega) (fun k hk => by rcases hk with rfl | hk; omega; have := h3 k hk; omega))
      have HO := Lib.hid (hfr2.others (fun k hk _ => by
        rcases hk with rfl | hk
        · exact ⟨_, _, _, h1⟩
        · obtain ⟨c, hc⟩ := h2.cells k hk; exact ⟨c, _, _, hc⟩))
      have HK : Hid (KpL L W (w1.setCell ⟨L, 0, none⟩ (.slice aov' (pre.length + 1) capv'))) := by
        refine ⟨hfr2.size, fun k c t fr hk hne hr => hfr2.block k (blk_lt hk) ?_, fun k hk => ?_⟩
        · rintro (h | h)
          · exact hne h
          · exact hr ((rowOf_at h1).trans h)
        · rw [rowOf_at h1'' ] at hk
          rw [rowOf_at h1]
          exact hown k hk
      have HI : Hid ((∃ v, (w1.setCell ⟨L, 0, none⟩ (.slice aov' (pre.length + 1) capv')).heap[L]? = some (.cells #[v] 22 (0, 0)) ∧ Sl (w1.setCell ⟨L, 0, none⟩ (.slice aov' (pre.length + 1) capv')) 26 1 v (pre ++ [x]).length (u64s (pre ++ [x])) ∧ (∀ k, v.ownBlock = some k → L + 2 ≤ k))) :=
        ⟨_, h1'', by simpa [u64s] using hs2, fun k hk => by rcases hown k hk with h | h; exact h3 k h; omega⟩
      clear hs1 hs2 h1'' hfr2 hfr1 h1' hv1
      gi_wp2_with fail
      exact ⟨HO.out.from _, HK.out, HI.out, h5.trans HB2.out, Nat.le_trans h6 HO.out.size⟩
    case stop => exact fun D c pre W _ _ h _ => h.elim
    case done =>
      rintro D ys W hD rfl ⟨⟨v, h1, h2, h3⟩, h5, h6⟩ hK
      clear hl0 hn0 hbel hst
      obtain ⟨aov, capv, rfl, hcv, hmv⟩ := h2.shape
      have hbw : Below wc.heap.size wc W := by rw [HL.out]; exact h5
      have hTW := HT.out.bel hbw
      clear hbw
      go_upto_region 37 with fail
      have hT1 := hTW.bel (bel_drew _)
      have k1 : W.drew.cell? ⟨L, 0, none⟩ = some (.slice aov ys.length capv) := by have := blk_cell (w := W) h1 0; simpa using this
      have hs1 : Sl W.drew 26 1 (Value.slice aov ys.length capv) ys.length (u64s ys) := h2.keep fun _ _ => rfl
      have hK1 : W.drew.heap[D]? = some (Obj.deferred (some [])) := hK
      have hL1 : L < W.drew.heap.size := by have : W.drew.heap.size = W.heap.size := rfl; omega
      have hwd : Hid (Bx.words ⟨ns, 32, false, 0, 0, [], eb⟩ = ys) := Lib.hid hw.out
      clear hTW h1 h2 hK h5
      refine wp_region_ord (Ord.take 0 (.take 2 (.alone 1 (.alone 3 (.take 4 (.alone 5 (.take 6 (.take 7 .done))))))))
        (fun V => V.cell? ⟨L, 0, none⟩ = some (.slice aov ys.length capv)) (by kernel_rfl) (by kernel_rfl) (by kernel_rfl) (fun c a d v w h => by cases d <;> exact h) k1 ?_
      refine ord_take (o := ⟨some 133, _, _, _, _, none⟩) _ rfl (by rfl) (fun V hV => by (go_simp; with_reducible rfl)) ?_
      simp only [Act.put, List.setIfInBounds_toArray, List.set_cons_zero, List.set_cons_succ]
      refine ord_take (o := ⟨some 135, _, _, _, _, none⟩) _ rfl (by rfl) (fun V hV => by (go_simp; with_reducible rfl)) ?_
      simp only [Act.put, List.setIfInBounds_toArray, List.set_cons_zero, List.set_cons_succ]
      refine ord_alone (o := ⟨some 134, _, _, _, _, none⟩) rfl (by rfl) (fun K hKK => ?_)
      go_simp
      refine (all_any (B + 1) _ _ 0 _ hT1.m (by show ns.length ≤ 64; omega)).mono ?_
      rintro e w5 ⟨v5, rfl, hs5, _, hb5⟩
      rw [show cutTo 0 _ = _ from by unfold cutTo; exact if_neg (by omega), hwd.out] at hs5
      have hT5 := hT1.bel hb5
      have k5 : w5.cell? ⟨L, 0, none⟩ = some (.slice aov ys.length capv) := (World.cell?_of_block (w := W.drew) (a := ⟨L, 0, none⟩) (hb5.block L hL1)).trans k1
      have hs6 : Sl w5 26 1 (Value.slice aov ys.length capv) ys.length (u64s ys) := hs1.keep fun q hq => hb5.block q (hs1.lt q hq)
      have hK5 := (hb5.block D (blk_lt hK1)).trans hK1
      have hL5 := Nat.lt_of_lt_of_le hL1 hb5.size
      refine hKK _ _ k5 ?_
      clear hKK K hT1 k1 hs1 hK1 hb5 hL1
      refine ord_alone (o := ⟨some 136, _, _, _, _, none⟩) rfl (by rfl) (fun K hKK => ?_)
      go_simp
      refine (Same_yes _ _ _ _ _ hs5.rd hs6.rd).mono ?_
      rintro e w6 ⟨rfl, q6, rfl⟩
      have hT6 := hT5.bel (below_drewN w5 q6)
      have hK6 : (w5.drewN q6).heap[D]? = some (Obj.deferred (some [])) := hK5
      refine hKK _ _ k5 ?_
      clear hKK K hT5 hs5 hs6
      refine ord_take (o := ⟨some 137, _, _, _, _, none⟩) _ rfl (by rfl) (fun V hV => by (go_simp; with_reducible rfl)) ?_
      simp only [Act.put, List.setIfInBounds_toArray, List.set_cons_zero, List.set_cons_succ]
      refine ord_alone (o := ⟨some 138, _, _, _, _, some (4, true)⟩) rfl (by rfl) (fun K hKK => ?_)
      go_simp
      refine (awake_any _).mono ?_
      rintro e w7 ⟨rfl, hb7⟩
      have hT7 := hT6.bel hb7
      have hK7 := (hb7.block D (blk_lt hK6)).trans hK6
      have k7 : w7.cell? ⟨L, 0, none⟩ = some (.slice aov ys.length capv) := (World.cell?_of_block (w := w5.drewN q6) (a := ⟨L, 0, none⟩) (hb7.block L hL5)).trans k5
      refine hKK _ _ k7 ?_
      clear hKK K hT6 hb7 hK6 hK5 k5
      refine ord_take (o := ⟨some 139, _, _, _, _, none⟩) _ rfl (by rfl) (fun V hV => by (go_simp; with_reducible rfl)) ?_
      simp only [Act.put, List.setIfInBounds_toArray, List.set_cons_zero, List.set_cons_succ]
      refine ord_take (o := ⟨some 4, _, _, _, _, none⟩) _ rfl (by rfl) (fun V hV => by (go_simp; with_reducible rfl)) ?_
      simp only [Act.put, List.setIfInBounds_toArray, List.set_cons_zero, List.set_cons_succ]
      refine ord_done ?_
      go_wp2_with fail
      refine ⟨by simp, .inl ⟨_, _, rfl, run_takeDeferred hK7, ?_⟩⟩
      refine ⟨_, results_tmp rfl _ _ _, rfl, ?_⟩
      rw [HB.out]
      exact hT7.below.grown (grownBy_putObj' w7 D _) hT7.size (fun k e => by cases e; have := HL.out; have := HS.out; have := HT.out.size; omega)
end Go.Proofs.Ytgijaehmffojhaa
