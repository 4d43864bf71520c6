/- AtomBack: what is written is read again. -/
import Derived.Test.YtflbcijmfcmilaaDoorThere
namespace Go.Proofs.YtflbcijmfcmilaaDoor
open Go.RowKit
open Go.Lib (decodeL encodeRune validD)

theorem quoteS_clean (s : ByteArray) (h : rightL s.data.toList = true) : ∀ x ∈ (quoteS s).data.toList, 32 ≤ x.toNat ∧ x.toNat ≠ 127 := by
  cases hb : bareL s.data.toList with
  | true =>
    have hq : quoteS s = s := by unfold quoteS; rw [h, hb]; rfl
    rw [hq]
    intro x hx
    have := inside_ascii (run_all (bare_facts hb).2.2.1 x hx)
    omega
  | false =>
    have hq : quoteS s = ⟨(quoteL s.data.toList).toArray⟩ := by unfold quoteS; rw [h, hb]; rfl
    rw [hq]
    exact quoteL_clean s.data.toList

/-- What stands behind does not go on with a bare atom. -/
def stopsB (behind : ByteArray) : Bool := match behind.data.toList with
  | [] => true
  | x :: _ => !insideU x

theorem quote_scan (s behind : ByteArray) (h : rightL s.data.toList = true) (hs : behind.size ≤ 140737488355328) (hok : bareL s.data.toList = false ∨ stopsB behind = true) (w : World) (hT : Lib.Utf8Tabs 0 1 w) :
    Calls Tryd.prog 18 #[.string (quoteS s ++ behind), .int .i64 0] w fun e w' => e = .returned (.tuple #[.string s, .int .i64 (quoteS s).size, .int .i64 0]) ∧ Below w.heap.size w w' := by
  obtain ⟨h255, hv⟩ := right_size h
  have hl : s.data.toList.length = s.size := by simp
  have hqs := quoteS_size s h
  have hsz : (quoteS s ++ behind).size ≤ maxLen := by
    rw [ByteArray.size_append]
    unfold maxLen
    omega
  cases hb : bareL s.data.toList with
  | true =>
    have hq : quoteS s = s := by unfold quoteS; rw [h, hb]; rfl
    have hst : stopsB behind = true := by
      rcases hok with h' | h'
      · rw [hb] at h'; cases h'
      · exact h'
    have hr : ∀ x, behind.data.toList.head? = some x → insideU x = false := by
      intro x hx
      unfold stopsB at hst
      cases hd : behind.data.toList with
      | nil => rw [hd] at hx; cases hx
      | cons y t =>
        rw [hd] at hx hst
        cases hx
        simpa using hst
    obtain ⟨h1, h2⟩ := scan_bare_app s behind hb hr
    rw [hq] at hsz ⊢
    refine (scan_bare (s ++ behind) 0 w hsz (by omega) h2).mono ?_
    rintro e w' ⟨rfl, rfl⟩
    refine ⟨?_, Below.refl _ _⟩
    rw [h1]
    rfl
  | false =>
    have hq : quoteS s = ⟨(quoteL s.data.toList).toArray⟩ := by unfold quoteS; rw [h, hb]; rfl
    obtain ⟨h1, h2⟩ := scan_quote_app s.data.toList behind hv
    have hqsz : (quoteS s).size = (quoteL s.data.toList).length := by rw [hq]; rfl
    rw [← hq] at h1 h2
    have hlt : 0 < (quoteS s ++ behind).size := by
      rcases Nat.eq_zero_or_pos (quoteS s ++ behind).size with h0 | h0
      · rw [(nil_iff _).2 h0] at h2; cases h2
      · exact h0
    have hc : (quoteS s ++ behind)[0]'hlt = 39 := by
      rw [drop_at hlt] at h2
      exact Option.some.inj h2
    refine (scan_quote (quoteS s ++ behind) 0 w hsz hlt hc hT (.inr ⟨_, _, _, h1, by omega⟩)).mono ?_
    rintro e w' ⟨rfl, hb'⟩
    refine ⟨?_, hb'⟩
    rw [h1, hqsz]
    unfold qRes
    dsimp only
    rw [if_neg (by simp; omega)]
    rfl

theorem run_two (behind : ByteArray) (hne : 0 < behind.size) (w : World) : Calls Tryd.prog 24 #[.string ((⟨#[97]⟩ : ByteArray) ++ behind.extract 0 1), .int .i64 0] w fun e w' => e = .returned (.int .i64 (if stopsB behind then 1 else 2)) ∧ w' = w := by
  obtain ⟨x, t, hd⟩ : ∃ x t, behind.data.toList = x :: t := by
    cases h : behind.data.toList with
    | nil => rw [nil_iff] at h; omega
    | cons x t => exact ⟨x, t, rfl⟩
  have hl : ((⟨#[97]⟩ : ByteArray) ++ behind.extract 0 1).data.toList = [97, x] := by
    rw [ByteArray.data_append, Array.toList_append, Lib.extract_data, hd]
    rfl
  have hsz : ((⟨#[97]⟩ : ByteArray) ++ behind.extract 0 1).size ≤ maxLen := by
    have h2 : ((⟨#[97]⟩ : ByteArray) ++ behind.extract 0 1).data.toList.length = 2 := by rw [hl]; rfl
    have h3 : ((⟨#[97]⟩ : ByteArray) ++ behind.extract 0 1).size = 2 := by rw [← h2]; rfl
    rw [h3]
    unfold maxLen
    omega
  have hr := rrun_any ((⟨#[97]⟩ : ByteArray) ++ behind.extract 0 1) 0 w (by omega) hsz
  rw [List.drop_zero, hl] at hr
  refine hr.mono ?_
  rintro e w' ⟨rfl, rfl⟩
  refine ⟨?_, rfl⟩
  have hrt : runTo [97, x] = if insideU x then 2 else 1 := by
    rw [runTo_cons, if_pos (by decide), List.takeWhile_cons, if_pos (by decide), List.takeWhile_cons]
    cases insideU x <;> rfl
  rw [hrt]
  have hst : stopsB behind = !insideU x := by unfold stopsB; rw [hd]
  rw [hst]
  cases insideU x <;> rfl

set_option maxHeartbeats 6400000 in
set_option maxRecDepth 100000 in
theorem atomBack_walk (s behind : ByteArray) (hs : s.size ≤ maxLen) (_ : behind.size ≤ maxLen) (hb2 : behind.size ≤ 140737488355328) (w : World) (hT : Lib.Utf8Tabs 0 1 w) (hT2 : Tz16 w) : Calls Tryd.prog 6 #[.string s, .string behind] w fun e w' => e = .returned (.bool true) ∧ Below w.heap.size w w' := by
  have HT := Lib.hid hT
  have HQ1 := Lib.hid (quote_any s w hs hT hT2)
  cases hr : rightL s.data.toList with
  | false =>
    have HR : Hid (rightN s.data.toList = 20) := Lib.hid (by unfold rightN; rw [hr]; rfl)
    clear hT hT2 hr
    go_enter Tryd.func6, Tryd.ntmps6
    go_wp2_with fail
    refine (HQ1.out).mono ?_
    rintro e w1 ⟨rfl, hb1⟩
    rw [HR.out]
    go_wp2_with fail
    refine (rright_any s _ hs).mono ?_
    rintro e w2 ⟨rfl, hb2⟩
    rw [HR.out]
    have hbw2 := hb1.trans (hb2.mono hb1.size)
    go_wp2_with fail
    refine (awake_any _).mono ?_
    rintro e w3 ⟨rfl, hb3⟩
    go_wp2_with fail
    go_ret
    exact ⟨rfl, hbw2.trans (hb3.mono hbw2.size)⟩
  | true =>
    have HR : Hid (rightN s.data.toList = 0) := Lib.hid (by unfold rightN; rw [hr]; rfl)
    have hback := unq_quote s hr
    have hclean := quoteS_clean s hr
    have hscan := fun hok w hT => quote_scan s behind hr hb2 hok w hT
    have hqs := quoteS_size s hr
    obtain ⟨q, hq⟩ : ∃ q, quoteS s = q := ⟨_, rfl⟩
    have hhead : ∃ c, q.data.toList.head? = some c ∧ (bareL s.data.toList = true → c ≠ 39) ∧ (bareL s.data.toList = false → c = 39) := by
      cases hb : bareL s.data.toList with
      | true =>
        have : quoteS s = s := by unfold quoteS; rw [hr, hb]; rfl
        rw [this] at hq
        subst hq
        obtain ⟨h1, h2, h3, h4⟩ := bare_facts hb
        obtain ⟨y, t, hyt, hsm⟩ := run_head h3 h1
        exact ⟨y, by rw [hyt]; rfl, (fun _ => small_ne hsm), (fun h => by cases h)⟩
      | false =>
        have : quoteS s = ⟨(quoteL s.data.toList).toArray⟩ := by unfold quoteS; rw [hr, hb]; rfl
        rw [this] at hq
        subst hq
        exact ⟨39, rfl, (fun h => by cases h), fun _ => rfl⟩
    obtain ⟨c, hc, hc1, hc2⟩ := hhead
    rw [hq] at hback hclean hscan hqs
    have hq0 : 0 < q.size := by
      rcases Nat.eq_zero_or_pos q.size with h0 | h0
      · rw [(nil_iff _).2 h0] at hc; cases hc
      · exact h0
    have hqc : (q[0]'hq0) = c := by
      have := drop_at hq0
      rw [List.drop_zero] at this
      rw [this] at hc
      exact Option.some.inj hc
    have HQ := Lib.hid hq
    have HBK := Lib.hid hback
    have HCL : Hid (∀ i (h : i < q.size), 32 ≤ (q[i]'h).toNat ∧ (q[i]'h).toNat ≠ 127) := Lib.hid fun i h => hclean _ (by
      show q.data[i] ∈ q.data.toList
      simp)
    have HSC := Lib.hid hscan
    have HQC := Lib.hid hqc
    have HC1 := Lib.hid hc1
    have HC2 := Lib.hid hc2
    have hqm : q.size ≤ maxLen := by unfold maxLen; omega
    have hsb : s.toList == s.toList := by simp
    clear hT hT2 hr hback hclean hscan hq hc hqc hc1 hc2
    go_enter Tryd.func6, Tryd.ntmps6
    go_wp2_with fail
    refine (HQ1.out).mono ?_
    rintro e w1 ⟨rfl, hb1⟩
    rw [HQ.out, HR.out]
    go_wp2_with fail
    go_loopg [29, 7] q.size (fun g s29 s7 wr => ∃ i : Nat, i + g = q.size ∧ s29 = .int .i64 i ∧ wr = w1)
    case atStart => exact ⟨0, by omega, rfl, rfl⟩
    case round =>
      obtain ⟨i, hi, rfl, rfl⟩ := hrel
      cases gk with
      | succ g =>
        have hlt : i < q.size := by omega
        have h1 := (HCL.out i hlt).1
        have h2 := (HCL.out i hlt).2
        obtain ⟨x, hx⟩ : ∃ x, (q[i]'hlt).toNat = x := ⟨_, rfl⟩
        rw [hx] at h1 h2
        have h3 : ((x : Int) == 127) = false := by simp; omega
        clear h2
        go_wp2_with fail
        go_roundg g
        case measure => omega
        case rel => exact ⟨i + 1, by omega, by go_num, rfl⟩
      | zero =>
        obtain rfl : i = q.size := by omega
        have HB1 := Lib.hid hb1
        clear hb1
        go_wp2_with fail
        refine (unquote_any q _ hqm (tabs_below HT.out (Nat.le_refl _) HB1.out)).mono ?_
        rintro e w2 ⟨rfl, hb2'⟩
        rw [HBK.out]
        have HB2 := Lib.hid (HB1.out.trans (hb2'.mono HB1.out.size))
        clear hb2'
        have HT2' := Lib.hid (tabs_below HT.out (Nat.le_refl _) HB2.out)
        have hq0' : ((q.size : Int) == 0) = false := beq_false_of_ne (by omega)
        by_cases hbe : behind.size = 0
        · have hbt : behind.toList = [] := by rw [ByteArray.toList_eq]; exact (nil_iff behind).2 hbe
          have hstop : stopsB behind = true := by unfold stopsB; rw [(nil_iff behind).2 hbe]
          have HS := Lib.hid (HSC.out (.inr hstop))
          clear hstop
          go_wp2_with fail
          refine (HS.out _ HT2'.out).mono ?_
          rintro e w3 ⟨rfl, hb3⟩
          have HB3 := Lib.hid (HB2.out.trans (hb3.mono HB2.out.size))
          clear hb3
          go_wp2_with fail
          refine (awake_any _).mono ?_
          rintro e w4 ⟨rfl, hb4⟩
          go_wp2_with fail
          go_ret
          exact ⟨rfl, HB3.out.trans (hb4.mono HB3.out.size)⟩
        · have hne : behind.data.toList ≠ [] := fun h => hbe ((nil_iff behind).1 h)
          have hbt : (behind.toList == []) = false := by rw [ByteArray.toList_eq]; exact beq_false_of_ne hne
          have hbt2 : behind.toList.isEmpty = false := by
            rw [ByteArray.toList_eq]
            cases h : behind.data.toList with
            | nil => exact absurd h hne
            | cons _ _ => rfl
          have hb1s : 1 ≤ behind.size := by omega
          have hrun := run_two behind (by omega) w2
          have hcat : ¬ 9223372036854775807 < (⟨#[97]⟩ : ByteArray).size + 1 := by show ¬ _ < 1 + 1; omega
          clear hne hbe
          cases hst : stopsB behind with
          | true =>
            rw [hst] at hrun
            have HRUN := Lib.hid hrun
            have HS := Lib.hid (HSC.out (.inr hst))
            clear hrun hst
            go_wp2_with fail
            refine (HRUN.out).mono ?_
            rintro e w2' ⟨rfl, rfl⟩
            go_wp2_with fail
            refine (HS.out _ HT2'.out).mono ?_
            rintro e w3 ⟨rfl, hb3⟩
            have HB3 := Lib.hid (HB2.out.trans (hb3.mono HB2.out.size))
            clear hb3
            go_wp2_with fail
            refine (awake_any _).mono ?_
            rintro e w4 ⟨rfl, hb4⟩
            go_wp2_with fail
            go_ret
            exact ⟨rfl, HB3.out.trans (hb4.mono HB3.out.size)⟩
          | false =>
            rw [hst] at hrun
            have HRUN := Lib.hid hrun
            clear hrun hst
            cases hb : bareL s.data.toList with
            | true =>
              have hc39 := HC1.out hb
              have hcz : (((q[0]'hq0).toNat : Int) != 39) = true := by
                rw [HQC.out]
                simp
                intro h
                exact hc39 (UInt8.toNat.inj (by rw [show c.toNat = 39 by omega]; rfl))
              have hcz2 : (((q[0]'hq0).toNat : Int) == 39) = false := by
                rw [HQC.out]
                simp
                intro h
                exact hc39 (UInt8.toNat.inj (by rw [show c.toNat = 39 by omega]; rfl))
              clear hb hc39
              go_wp2_with fail
              refine (HRUN.out).mono ?_
              rintro e w2' ⟨rfl, rfl⟩
              go_wp2_with fail
              refine (awake_any _).mono ?_
              rintro e w4 ⟨rfl, hb4⟩
              go_wp2_with fail
              go_ret
              exact ⟨rfl, HB2.out.trans (hb4.mono HB2.out.size)⟩
            | false =>
              have hcz : ((q[0]'hq0).toNat : Int) = 39 := by
                rw [HQC.out, HC2.out hb]
                rfl
              have HS := Lib.hid (HSC.out (.inl hb))
              clear hb
              go_wp2_with fail
              refine (HRUN.out).mono ?_
              rintro e w2' ⟨rfl, rfl⟩
              go_wp2_with fail
              refine (HS.out _ HT2'.out).mono ?_
              rintro e w3 ⟨rfl, hb3⟩
              have HB3 := Lib.hid (HB2.out.trans (hb3.mono HB2.out.size))
              clear hb3
              go_wp2_with fail
              refine (awake_any _).mono ?_
              rintro e w4 ⟨rfl, hb4⟩
              go_wp2_with fail
              go_ret
              exact ⟨rfl, HB3.out.trans (hb4.mono HB3.out.size)⟩
end Go.Proofs.YtflbcijmfcmilaaDoor
