/- A region that draws its order and only reads, inside a round of a loop over a function: one walk in the written order serves. -/
import Derived.Test.YtflbcijmfcmilaaDoorWhole
import Derived.Sort.QuietTacIn
namespace Go.Proofs.YtflbcijmfcmilaaDoor

theorem upon_round {F : Fence} {n : Nat} {P : Program} {l0 : Nat} {o : Oper} {a : Act} {next : Act → World → Prop} {Q : Exit → Act → World → Prop} {r : Result Next}
    (h : o.uponIn F n P a next Q r) : o.uponIn (F.inRound l0) n P a next Q r := by
  cases r with
  | ok x w => cases x <;> exact h
  | halt x w => cases x <;> exact h

theorem oper_round {F : Fence} {n : Nat} {P : Program} {l0 : Nat} {o : Oper} {a : Act} {w : World} {K : Act → World → Prop} {Q : Exit → Act → World → Prop}
    (hd : ∀ c, o.op ≠ .defer c) (h : o.wpIn F n P a w K Q) : o.wpIn (F.inRound l0) n P a w K Q := by
  refine ⟨h.1, ?_⟩
  have h2 := h.2
  rw [Oper.semAt_eq _ _ _ hd] at h2 ⊢
  exact upon_round h2

theorem ops_round {F : Fence} {n : Nat} {P : Program} {l0 : Nat} {ops : Array Oper} {Q : Exit → Act → World → Prop} (hd : ∀ o ∈ ops, ∀ c, o.op ≠ .defer c) :
    ∀ (is : List Nat) (a : Act) (w : World), wpOpsIn F n P ops Q is a w → wpOpsIn (F.inRound l0) n P ops Q is a w
  | [], _, _, h => h
  | i :: rest, a, w, h => by
    have ih := ops_round (F := F) (n := n) (P := P) (l0 := l0) (Q := Q) hd rest
    cases ho : ops[i]? with
    | none => simp only [wpOpsIn, ho] at h ⊢; exact ih a w h
    | some o =>
      have hm : o ∈ ops := Array.mem_of_getElem? ho
      simp only [wpOpsIn, ho] at h ⊢
      split at h
      · rename_i hw
        rw [if_pos hw]
        exact oper_round (hd o hm) (Oper.wpIn_mono (fun a w => ih a w) h)
      · rename_i hw
        rw [if_neg hw]
        exact ⟨h.1, ih _ w h.2⟩

/-- The written order serves, inside a round. -/
theorem region_quiet_round {F : Fence} {n : Nat} {P : Program} {l0 : Nat} {id : Nat} {Q : Exit → Act → World → Prop} {a : Act} {w : World} {l : List Oper} (hro : F.round = none) (hm : P.follows .mixedOrders = true) (hB : Region.lexB .any l.toArray = true)
    (hd : (l.all fun o => match o.op with | .defer _ => false | _ => true) = true)
    (h : wpQuietIn F n P l.toArray (fun w' => ∃ n, w' = w.drewN n) (fun a' => ∀ w', (∃ n, w' = w.drewN n) → Q .normal a' w') l a) : (Code.region id l.toArray true).wpIn (F.inRound l0) n P Q a w := by
  have hd' : ∀ o ∈ l.toArray, ∀ c, o.op ≠ .defer c := fun o ho c e => by
    have := List.all_eq_true.1 hd o (by simpa using ho)
    rw [e] at this
    cases this
  simp only [Region.lexB, Bool.and_eq_true] at hB
  refine wpIn_region_draw fun t => ops_round hd' _ _ _ ?_
  simp only [Region.schedule, hm, Bool.true_or, if_true]
  refine wpAnyIn_sound _ t _ a _ (wpAnyIn_of_quiet (C := fun w' => ∃ n, w' = w.drewN n) (Q := fun a' => ∀ w', (∃ n, w' = w.drewN n) → Q .normal a' w') hro (fun _ w' hw' h => h w' hw') _ _ _ _ ⟨1, rfl⟩ ?_)
  have := wpAnyQIn_lex (F := F) (n := n) (P := P) (C := fun w' => ∃ n, w' = w.drewN n) (md := .any) hB.1 l.toArray.toList 0 (Array.replicate l.toArray.size false) a (by simp) (by simpa using hB.2) (by simpa using h)
  simpa using this
end Go.Proofs.YtflbcijmfcmilaaDoor
