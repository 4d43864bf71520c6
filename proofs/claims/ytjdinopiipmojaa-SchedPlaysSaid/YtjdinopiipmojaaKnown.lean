/- known(): what comes of fixed calls. -/
import Derived.Test.YtjdinopiipmojaaNext
namespace Go.Proofs.Ytjdinopiipmojaa
open Go.RowKit

/-- A queue that the call itself made. -/
structure QIn (B : Nat) (w0 w : World) (p bm : Nat) (vs : Int → Value) (c : Int) (L : Int → List Int) : Prop where
  q : Qb w p bm vs c L
  lies : ∀ k, bf p bm vs k → B ≤ k
  below : Below B w0 w
  size : B ≤ w.heap.size

theorem QIn.step {B : Nat} {w0 w w' : World} {p bm : Nat} {vs : Int → Value} {c c' : Int} {L L' : Int → List Int} (h : QIn B w0 w p bm vs c L) (hp : QPost p bm vs c' L' w w') : ∃ vs', QIn B w0 w' p bm vs' c' L' := by
  obtain ⟨vs', hb, hf, hg⟩ := hp
  have hs := h.size
  exact ⟨vs', hb, fun k hk => by rcases hg k hk with x | x; exact h.lies k x; omega, h.below.trans (hf.below h.size h.lies), Nat.le_trans h.size hf.size⟩

theorem QIn.new {w w' : World} (h : Qb w' (w.heap.size + 1) w.heap.size (fun _ => .slice none 0 0) 0 (fun _ => [])) (hb : Below w.heap.size w w') :
    QIn w.heap.size w w' (w.heap.size + 1) w.heap.size (fun _ => .slice none 0 0) 0 (fun _ => []) :=
  ⟨h, fun k hk => by rcases hk with e | e | ⟨j, _, _, hj⟩; omega; omega; simp [Value.ownBlock] at hj, hb, hb.size⟩

theorem QIn.keep {B : Nat} {w0 w w' : World} {p bm : Nat} {vs : Int → Value} {c : Int} {L : Int → List Int} (h : QIn B w0 w p bm vs c L) {F : Nat → Prop} (hf : Fr F w w') (hF : ∀ k, bf p bm vs k → ¬ F k) (hB : ∀ k, F k → B ≤ k) : QIn B w0 w' p bm vs c L :=
  ⟨h.q.keep hf hF, h.lies, h.below.trans (hf.below h.size hB), Nat.le_trans h.size hf.size⟩

theorem QIn.bel {B : Nat} {w0 w w' : World} {p bm : Nat} {vs : Int → Value} {c : Int} {L : Int → List Int} (h : QIn B w0 w p bm vs c L) (hb : Below w.heap.size w w') : QIn B w0 w' p bm vs c L :=
  h.keep (bel_fr0 hb) (fun _ _ h => h) (fun _ h => h.elim)

theorem known_any (w : World) : Calls Try.prog 11 #[] w fun e w' => e = .returned (.bool true) ∧ Below w.heap.size w w' := by
  obtain ⟨B, hB⟩ : ∃ B, w.heap.size = B := ⟨_, rfl⟩
  go_enter Try.func11, Try.ntmps11
  go_wp2_with fail
  refine (New_any _).mono ?_
  rintro e w1 ⟨rfl, hq, hb⟩
  have h1 := QIn.new hq hb
  rw [hB] at h1 ⊢
  have HB := Lib.hid hB
  clear hq hb hB
  go_wp2_with fail
  refine (Add_ok _ _ _ _ _ 5 2 _ h1.q (by simp [sumL]) (by omega) (by omega) (by omega) (by omega) (by simp)).mono ?_
  rintro e w2 ⟨rfl, hp⟩
  obtain ⟨vs2, h2⟩ := h1.step hp
  clear hp h1
  go_wp2_with fail
  refine (Add_ok _ _ _ _ _ 7 3 _ h2.q (by simp [sumL, setL]) (by omega) (by omega) (by omega) (by omega) (fun j _ _ => by unfold setL; split <;> simp)).mono ?_
  rintro e w3 ⟨rfl, hp⟩
  obtain ⟨vs3, h3⟩ := h2.step hp
  clear hp h2
  go_wp2_with fail
  refine (Next_some _ _ _ _ _ _ h3.q 3 (by simp [qturn, setL]) (by omega) 7 [] (by simp [setL]) (by omega) (by omega)).mono ?_
  rintro e w4 ⟨rfl, hp⟩
  obtain ⟨vs4, h4⟩ := h3.step hp
  clear hp h3
  go_wp2_with fail
  refine (Next_some _ _ _ _ _ _ h4.q 2 (by simp [qturn, setL]) (by omega) 5 [] (by simp [setL]) (by simp [qcount]) (by simp [qcount])).mono ?_
  rintro e w5 ⟨rfl, hp⟩
  obtain ⟨vs5, h5⟩ := h4.step hp
  clear hp h4
  go_wp2_with fail
  go_ret
  exact ⟨rfl, by rw [HB.out]; exact h5.below⟩
end Go.Proofs.Ytjdinopiipmojaa
