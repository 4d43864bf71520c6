/- The program's reader: first, text, host. -/
import Derived.Test.YtkhjdcnlpablkaaDoorDec
import Derived.Laws.BytesString
import Derived.Outline
namespace Go.Proofs.YtkhjdcnlpablkaaDoor
open Go.RowKit
open Go.Lib (byteCells)

/-- A fault is told. -/
def Er (B : Nat) (w : World) (rb : Nat) (bv sv : Value) (bs : List UInt8) (e p : Nat) (w' : World) : Prop := ∃ sv' s', Rw B w rb bv sv bs w' sv' s' ∧ s'.why = e ∧ s'.place = p ∧ e ≠ 0

section
variable {B rb : Nat} {w w' w2 : World} {bv sv sv' sv2 : Value} {bs : List UInt8} {s s' s2 : Pr} {e p : Nat}
theorem Er.of (h : Rw B w rb bv sv bs w' sv' s') (hw : s'.why = e) (hp : s'.place = p) (he : e ≠ 0) : Er B w rb bv sv bs e p w' := ⟨_, _, h, hw, hp, he⟩
theorem Er.behind (h : Rw B w rb bv sv bs w' sv' s') (k : Er B w' rb bv sv' bs e p w2) : Er B w rb bv sv bs e p w2 := by
  obtain ⟨sv2, s2, h1, h2⟩ := k
  exact ⟨sv2, s2, h.trans h1, h2⟩
theorem Er.alloc (hb : Below w.heap.size w w') (k : Er B w' rb bv sv bs e p w2) : Er B w rb bv sv bs e p w2 := by
  obtain ⟨sv2, s2, h1, h2⟩ := k
  exact ⟨sv2, s2, h1.behind hb, h2⟩
theorem Er.below (k : Er B w rb bv sv bs e p w') (hb : Below w'.heap.size w' w2) : Er B w rb bv sv bs e p w2 := by
  obtain ⟨sv2, s2, h1, h2⟩ := k
  exact ⟨sv2, s2, h1.below hb, h2⟩
end

theorem fail_why {s : Pr} (h : s.why = 0) (e p : Nat) : (s.fail e p).why = e ∧ (s.fail e p).place = p := by unfold Pr.fail; rw [if_pos h]; exact ⟨rfl, rfl⟩
theorem Er.fail {B rb : Nat} {w w' : World} {bv sv sv' : Value} {bs : List UInt8} {s' : Pr} {e p : Nat} (h : Rw B w rb bv sv bs w' sv' (s'.fail e p)) (hs : s'.why = 0) (he : e ≠ 0) : Er B w rb bv sv bs e p w' :=
  .of h (fail_why hs e p).1 (fail_why hs e p).2 he

/-- What is said of an answer, and of a fault. -/
def ResP {α : Type} (x : Res α) (good : α → Prop) (bad : Nat → Nat → Prop) : Prop := match x with
  | .ok a => good a
  | .bad e p => bad e p
theorem ResP.okI {α : Type} {x : Res α} {a : α} {g : α → Prop} {b : Nat → Nat → Prop} (h : x = .ok a) (hg : g a) : ResP x g b := by rw [h]; exact hg
theorem ResP.badI {α : Type} {x : Res α} {e p : Nat} {g : α → Prop} {b : Nat → Nat → Prop} (h : x = .bad e p) (hb : b e p) : ResP x g b := by rw [h]; exact hb
theorem ResP.okE {α : Type} {x : Res α} {a : α} {g : α → Prop} {b : Nat → Nat → Prop} (h : ResP x g b) (hx : x = .ok a) : g a := by rw [hx] at h; exact h
theorem ResP.badE {α : Type} {x : Res α} {e p : Nat} {g : α → Prop} {b : Nat → Nat → Prop} (h : ResP x g b) (hx : x = .bad e p) : b e p := by rw [hx] at h; exact h
theorem callsOk {α : Type} {f : Nat} {ar : Array Value} {w : World} {x : Res α} {a : α} {g : α → Ending → World → Prop} {b : Nat → Nat → Ending → World → Prop}
    (h : Calls Tryd.prog f ar w fun r w' => ResP x (fun a => g a r w') (fun e p => b e p r w')) (hx : x = .ok a) : Calls Tryd.prog f ar w (g a) := h.mono fun _ _ hr => hr.okE hx
theorem callsBad {α : Type} {f : Nat} {ar : Array Value} {w : World} {x : Res α} {e p : Nat} {g : α → Ending → World → Prop} {b : Nat → Nat → Ending → World → Prop}
    (h : Calls Tryd.prog f ar w fun r w' => ResP x (fun a => g a r w') (fun e p => b e p r w')) (hx : x = .bad e p) : Calls Tryd.prog f ar w (b e p) := h.mono fun _ _ hr => hr.badE hx

theorem rest_one {bs : List UInt8} {p : Nat} (h : p < bs.length) : rest bs p 1 = [bs[p]] := by
  unfold rest
  rw [List.drop_eq_getElem_cons h]
  rfl

theorem cells_byte {w : World} {g off cap n : Nat} {l : List UInt8} (h : Rd w 1 (.slice (some ⟨g, off, none⟩) n cap) n (byteCells l)) {k : Nat} {c : UInt8} (hc : l[k]? = some c) (hn : l.length = n) : w.cell? ⟨g, off + k, none⟩ = some (.int .u8 (c.toNat : Int)) := by
  have hk := (List.getElem?_eq_some_iff.1 hc).1
  obtain ⟨g0, off0, cap0, hv, _, _, hq3⟩ := h.at (by omega)
  simp at hv
  obtain ⟨⟨rfl, rfl⟩, rfl⟩ := hv
  rw [hq3 k (by omega)]
  unfold byteCells
  rw [List.getElem?_map, hc]
  rfl

theorem sl_eqIn (w : World) (d : Nat) (a : Addr) (n cap : Nat) : (Op.equalIn (d + 1) 22 (.slice (some a) n cap) (.slice none 0 0)).run Tryd.prog w = .ok false w := by
  simp [Op.equalIn, run_underlying Tryd.underlying22]
theorem sl_eqIn0 (w : World) (d : Nat) : (Op.equalIn (d + 1) 22 (.slice none 0 0) (.slice none 0 0)).run Tryd.prog w = .ok true w := by
  simp [Op.equalIn, run_underlying Tryd.underlying22]
theorem sl_neq (w : World) (a : Addr) (n cap : Nat) : (binOp .neq 22 (.slice (some a) n cap) (.slice none 0 0)).run Tryd.prog w = .ok (.bool true) w := by
  simp only [binOp]
  simp [Op.equal, Op.maxDepth, sl_eqIn w 9999 a n cap]
theorem sl_neq0 (w : World) : (binOp .neq 22 (.slice none 0 0) (.slice none 0 0)).run Tryd.prog w = .ok (.bool false) w := by
  simp only [binOp]
  simp [Op.equal, Op.maxDepth, sl_eqIn0 w 9999]

set_option maxHeartbeats 800000 in
set_option maxRecDepth 100000 in
theorem first_ok (B rb : Nat) (bv sv : Value) (bs : List UInt8) (s : Pr) (hlen : bs.length ≤ 1048576) (w : World) (h : Rp B w rb bv sv bs s) (hs : s.why = 0) (hn : s.pos < bs.length) :
    Calls Tryd.prog 44 #[.pointer (some ⟨rb, 0, none⟩)] w fun r w' => r = .returned (.int .u8 (beN (rest bs s.pos 1))) ∧ Rw B w rb bv sv bs w' sv { s with tag := s.pos, pos := s.pos + 1 } := by
  obtain ⟨c0, c1, c2, c3, c4, c5, c6⟩ := Pr.cell h.blk
  have f2 := blk_free h.blk 2
  have hu : Rw B w rb bv sv bs (w.setCell ⟨rb, 2, none⟩ (.int .i64 s.pos)) sv { s with tag := s.pos } :=
    h.upd ((Fr.refl (fun k => k = rb) w).setCell (p := ⟨rb, 2, none⟩) (.inl rfl) _) (by rw [blk_set h.blk 2 _]; rfl) rfl h.le
  have H1 := Lib.hid (take_ok B rb bv sv bs { s with tag := s.pos } 1 hlen (by omega) _ hu.rp hs (by show s.pos + 1 ≤ _; omega))
  have HU := Lib.hid hu
  have HV : Hid (beN (rest bs s.pos 1) = (bs[s.pos]).toNat) := Lib.hid (by rw [rest_one hn]; simp [beN])
  have HB : Hid (byteCells (rest bs s.pos 1) = byteCells [bs[s.pos]]) := Lib.hid (by rw [rest_one hn])
  obtain ⟨b, hb⟩ : ∃ b, bs[s.pos] = b := ⟨_, rfl⟩
  rw [hb] at HV HB
  clear h hu hb c0 c3 c4 c5 c6 hs
  go_enter Tryd.func44, Tryd.ntmps44
  go_wp2_with fail
  refine (H1.out).mono ?_
  rintro e w1 ⟨⟨g, off, cap, rfl, hrd⟩, h1⟩
  have hrd2 := hrd.now
  rw [HB.out] at hrd2
  have hc := cells_byte hrd2 (k := 0) (c := b) rfl rfl
  rw [Nat.add_zero] at hc
  have H2 := Lib.hid h1
  have hneq := sl_neq w1 ⟨g, off, none⟩ 1 cap
  clear h1 hrd hrd2 c1 c2 f2
  go_wp2_with fail
  go_ret
  exact ⟨by rw [HV.out]; rfl, HU.out.trans H2.out⟩

set_option maxHeartbeats 800000 in
set_option maxRecDepth 100000 in
theorem first_short (B rb : Nat) (bv sv : Value) (bs : List UInt8) (s : Pr) (hlen : bs.length ≤ 1048576) (w : World) (h : Rp B w rb bv sv bs s) (hs : s.why = 0) (hn : bs.length < s.pos + 1) :
    Calls Tryd.prog 44 #[.pointer (some ⟨rb, 0, none⟩)] w fun r w' => r = .returned (.int .u8 0) ∧ Er B w rb bv sv bs 62 bs.length w' := by
  obtain ⟨c0, c1, c2, c3, c4, c5, c6⟩ := Pr.cell h.blk
  have f2 := blk_free h.blk 2
  have hu : Rw B w rb bv sv bs (w.setCell ⟨rb, 2, none⟩ (.int .i64 s.pos)) sv { s with tag := s.pos } :=
    h.upd ((Fr.refl (fun k => k = rb) w).setCell (p := ⟨rb, 2, none⟩) (.inl rfl) _) (by rw [blk_set h.blk 2 _]; rfl) rfl h.le
  have H1 := Lib.hid (take_short B rb bv sv bs { s with tag := s.pos } 1 hlen (by omega) _ hu.rp hs hn)
  have HU := Lib.hid hu
  have HS := Lib.hid hs
  clear h hu c0 c3 c4 c5 c6 hs
  go_enter Tryd.func44, Tryd.ntmps44
  go_wp2_with fail
  refine (H1.out).mono ?_
  rintro e w1 ⟨rfl, h1⟩
  have H2 := Lib.hid h1
  have hneq := sl_neq0 w1
  clear h1 c1 c2 f2
  go_wp2_with fail
  go_ret
  have hfw := fail_why (s := { s with tag := s.pos }) HS.out 62 bs.length
  exact ⟨rfl, .of (HU.out.trans H2.out) hfw.1 hfw.2 (by omega)⟩

/-- The bytes of a slice as a text. -/
theorem run_str {w : World} {v : Value} {n : Nat} {l : List UInt8} (h : Rd w 1 v n (byteCells l)) (hn : l.length = n) : (convert 22 9 v).run Tryd.prog w = .ok (.string ⟨l.toArray⟩) w := by
  obtain ⟨ao, cap, rfl, _, _⟩ := h.shape
  have hu5 : Tryd.prog.underlying 5 = some (.int .u8) := by kernel_rfl
  rw [run_convert_bytes_string w 22 9 5 ao n cap Tryd.underlying22 hu5 Tryd.underlying9]
  cases ao with
  | none =>
    have : l = [] := by
      apply List.eq_nil_of_length_eq_zero
      rcases Nat.eq_zero_or_pos n with h0 | h0
      · omega
      · obtain ⟨g, off, cap', hv, _⟩ := h.at h0
        cases hv
    subst this
    simp [Conv.bytesToString, Sem.run_pure]
    rfl
  | some a =>
    have hns : byteCells l = (l.map fun c => (c.toNat : Int)).map (Value.int .u8) := by unfold byteCells; rw [List.map_map]; rfl
    have hld : (loadCells a n).run Tryd.prog w = .ok ((l.map fun c => (c.toNat : Int)).map (Value.int .u8)).toArray w := by
      have hcs := run_loadCells_list (P := Tryd.prog) (w := w) a ((l.map fun c => (c.toNat : Int)).map (Value.int .u8)) (fun j v hj => by
        rw [← hns] at hj
        have hjl := (List.getElem?_eq_some_iff.1 hj).1
        rw [Lib.byteCells_length] at hjl
        obtain ⟨g, off, cap', hv, _, _, hq⟩ := h.at (by omega)
        simp at hv
        obtain ⟨rfl, rfl⟩ := hv
        rw [Addr.add_lit, hq j (by omega), hj])
      simpa [hn] using hcs
    rw [run_bytesToString w a n cap _ hld]
    have : ∀ (l : List UInt8) (r : ByteArray), (l.map fun c => (c.toNat : Int)).foldl (fun r n => r.push (UInt8.ofNat n.toNat)) r = ⟨r.data ++ l.toArray⟩ := by
      intro l
      induction l with
      | nil => intro r; simp
      | cons c l ih =>
        intro r
        simp only [List.map_cons, List.foldl_cons]
        rw [ih]
        simp [ByteArray.push]
    rw [this, show (⟨ByteArray.empty.data ++ l.toArray⟩ : ByteArray) = ⟨l.toArray⟩ from ByteArray.ext (by rw [show ByteArray.empty.data = #[] from rfl]; simp)]

theorem rd_nil (w : World) : Rd w 1 (.slice none 0 0) 0 (byteCells []) := (Sl.nil w 0 1).rd

/-! ### take, number: whatever is there -/
theorem take_res (B rb : Nat) (bv sv : Value) (bs : List UInt8) (s : Pr) (n : Nat) (hlen : bs.length ≤ 1048576) (hpos : 1 ≤ bs.length) (hnn : n ≤ 1099511627776) (w : World) (h : Rp B w rb bv sv bs s) (hs : s.why = 0) :
    Calls Tryd.prog 52 #[.pointer (some ⟨rb, 0, none⟩), .int .i64 n] w fun r w' => ResP (takeD bs s.pos n)
      (fun l => (∃ g off cap, r = .returned (.slice (some ⟨g, off, none⟩) n cap) ∧ RdU B w' 1 (.slice (some ⟨g, off, none⟩) n cap) n (byteCells l)) ∧ Rw B w rb bv sv bs w' sv { s with pos := s.pos + n })
      (fun e p => r = .returned (.slice none 0 0) ∧ Er B w rb bv sv bs e p w') := by
  by_cases hc : bs.length < s.pos + n
  · exact (take_short B rb bv sv bs s n hlen hnn w h hs hc).mono fun r w' hr => ResP.badI (if_pos hc) ⟨hr.1, .of hr.2 (fail_why hs _ _).1 (fail_why hs _ _).2 (by omega)⟩
  · exact (take_ok B rb bv sv bs s n hlen hpos w h hs (by omega)).mono fun r w' hr => ResP.okI (if_neg hc) hr

theorem number_res (B rb : Nat) (bv sv : Value) (bs : List UInt8) (s : Pr) (n : Nat) (hlen : bs.length ≤ 1048576) (hpos : 1 ≤ bs.length) (hn4 : n ≤ 4) (w : World) (h : Rp B w rb bv sv bs s) (hs : s.why = 0) :
    Calls Tryd.prog 45 #[.pointer (some ⟨rb, 0, none⟩), .int .i64 n] w fun r w' => ResP (numD bs s.pos n)
      (fun v => r = .returned (.int .i64 v) ∧ Rw B w rb bv sv bs w' sv { s with pos := s.pos + n })
      (fun e p => r = .returned (.int .i64 0) ∧ Er B w rb bv sv bs e p w') := by
  by_cases hc : bs.length < s.pos + n
  · exact (number_none B rb bv sv bs _ n w (take_short B rb bv sv bs s n hlen (by omega) w h hs hc)).mono fun r w' hr => ResP.badI (if_pos hc) ⟨hr.1, .of hr.2 (fail_why hs _ _).1 (fail_why hs _ _).2 (by omega)⟩
  · exact (number_ok B rb bv sv bs s n hlen hpos hn4 w h hs (by omega)).mono fun r w' hr => ResP.okI (if_neg hc) hr

theorem number_err (B rb : Nat) (bv sv : Value) (bs : List UInt8) (s : Pr) (n : Nat) (w : World) (h : Rp B w rb bv sv bs s) (hs : s.why ≠ 0) :
    Calls Tryd.prog 45 #[.pointer (some ⟨rb, 0, none⟩), .int .i64 n] w fun r w' => r = .returned (.int .i64 0) ∧ Rw B w rb bv sv bs w' sv s :=
  number_none B rb bv sv bs s n w (take_err B rb bv sv bs s n w h hs)

set_option maxRecDepth 100000 in
theorem eright_any (s : ByteArray) (w : World) (hs : s.size ≤ maxLen) (hT : Lib.Utf8Tabs 0 1 w) : Calls Tryd.prog 76 #[.string s] w fun e w' => e = .returned (.bool (rightL s.data.toList)) ∧ Below w.heap.size w w' := by
  have HR := Lib.hid (right_any s w hs hT)
  clear hT
  obtain ⟨b, hb⟩ : ∃ b, rightL s.data.toList = b := ⟨_, rfl⟩
  have HF : Hid (rightN s.data.toList = if b then 0 else 20) := Lib.hid (by unfold rightN; rw [hb])
  rw [hb]
  clear hb
  go_enter Tryd.func76, Tryd.ntmps76
  go_wp2_with fail
  refine (HR.out).mono ?_
  rintro e w1 ⟨rfl, hb1⟩
  rw [HF.out]
  cases b with
  | true =>
    go_wp2_with fail
    go_ret
    exact ⟨rfl, hb1⟩
  | false =>
    go_wp2_with fail
    go_ret
    exact ⟨rfl, hb1⟩

/-- The reader's fields 'why', 'tag', 'cells' as cells. -/
theorem Rp.fld {B : Nat} {w : World} {rb : Nat} {bv sv : Value} {bs : List UInt8} {s : Pr} (h : Rp B w rb bv sv bs s) : w.cell? ⟨rb, 1, none⟩ = some (.int .i64 s.pos) ∧ w.cell? ⟨rb, 2, none⟩ = some (.int .i64 s.tag) ∧ w.cell? ⟨rb, 3, none⟩ = some (.int .i64 s.cells) ∧ w.cell? ⟨rb, 5, none⟩ = some (.int .i64 s.why) := by
  obtain ⟨c0, c1, c2, c3, c4, c5, c6⟩ := Pr.cell h.blk
  exact ⟨c1, c2, c3, c5⟩

theorem ba_size (l : List UInt8) : (⟨l.toArray⟩ : ByteArray).size = l.length := by show l.toArray.size = _; simp

set_option maxHeartbeats 1600000 in
set_option maxRecDepth 100000 in
theorem text_any (B rb : Nat) (bv sv : Value) (bs : List UInt8) (s : Pr) (tag : Nat) (htag : tag = 118 ∨ tag = 119) (hlen : bs.length ≤ 1048576) (hpos : 1 ≤ bs.length) (w : World) (h : Rp B w rb bv sv bs s) (hs : s.why = 0) (hT : ∀ W, Below B w W → Lib.Utf8Tabs 0 1 W) :
    Calls Tryd.prog 48 #[.pointer (some ⟨rb, 0, none⟩), .int .u8 tag] w fun r w' => ResP (textD bs s.pos tag s.tag)
      (fun x => r = .returned (.string x.1) ∧ Rw B w rb bv sv bs w' sv { s with pos := x.2 })
      (fun e p => (∃ str, r = .returned (.string str)) ∧ Er B w rb bv sv bs e p w') := by
  have HT := Lib.hid hT
  have H := Lib.hid h
  have HS := Lib.hid hs
  obtain ⟨k, hk⟩ : ∃ k, (if tag = 118 then 2 else 1) = k := ⟨_, rfl⟩
  have hk12 : 1 ≤ k ∧ k ≤ 2 := by rw [← hk]; split <;> omega
  have HX : Hid (textD bs s.pos tag s.tag = (numD bs s.pos k).bind fun n => (takeD bs (s.pos + k) n).bind fun l => if rightL l then .ok (⟨l.toArray⟩, s.pos + k + n) else .bad 20 s.tag) := Lib.hid (by unfold textD; rw [hk])
  have H1 := number_res B rb bv sv bs s k hlen hpos (by omega) w h hs
  clear h hs hT
  cases hn : numD bs s.pos k with
  | bad e p =>
    replace H1 := callsBad H1 hn
    have HF : Hid (textD bs s.pos tag s.tag = .bad e p) := Lib.hid (by rw [HX.out, hn]; rfl)
    have HH1 := Lib.hid H1
    clear H1 hn
    rcases htag with rfl | rfl
    all_goals
      simp at hk
      subst hk
      go_enter Tryd.func48, Tryd.ntmps48
      go_wp2_with fail
      refine (HH1.out).mono ?_
      rintro r w1 ⟨rfl, hE⟩
      obtain ⟨sv1, s1, h1, hw1, hp1, he1⟩ := hE
      have HW1 := Lib.hid h1
      have HWP := Lib.hid (⟨hw1, hp1, he1⟩ : s1.why = e ∧ s1.place = p ∧ e ≠ 0)
      have H2 := Lib.hid (take_err B rb bv sv1 bs s1 0 w1 h1.rp (by omega))
      clear h1 hw1 hp1 he1
      go_wp2_with fail
      refine (H2.out).mono ?_
      rintro r w2 ⟨rfl, h2⟩
      have HW2 := Lib.hid h2
      have c5 := h2.rp.fld.2.2.2
      rw [HWP.out.1] at c5
      have q : ((e : Int) == 0) = false := by have := HWP.out.2.2; simp; omega
      have hcv := run_str (rd_nil w2) rfl
      clear h2
      go_wp2_with fail
      go_ret
      exact ResP.badI HF.out ⟨⟨_, rfl⟩, .of (HW1.out.trans HW2.out) HWP.out.1 HWP.out.2.1 HWP.out.2.2⟩
  | ok n =>
    replace H1 := callsOk H1 hn
    have HH1 := Lib.hid H1
    have hno := numD_ok hn
    have hnb := beN_lt (rest bs s.pos k)
    rw [rest_len hno.1, ← hno.2] at hnb
    have hnb2 : n < 65536 := by
      have : (256 : Nat) ^ k ≤ 256 ^ 2 := Nat.pow_le_pow_right (by omega) (by omega)
      omega
    cases hl : takeD bs (s.pos + k) n with
    | bad e p =>
      have HF : Hid (textD bs s.pos tag s.tag = .bad e p) := Lib.hid (by rw [HX.out, hn]; simp only [Res.bind]; rw [hl])
      have HL := Lib.hid hl
      clear H1 hn hno hnb hl
      rcases htag with rfl | rfl
      all_goals
        simp at hk
        subst hk
        go_enter Tryd.func48, Tryd.ntmps48
        go_wp2_with fail
        refine (HH1.out).mono ?_
        rintro r w1 ⟨rfl, h1⟩
        have HH2 := Lib.hid (callsBad (take_res B rb bv sv bs _ n hlen hpos (by omega) w1 h1.rp HS.out) HL.out)
        have HW1 := Lib.hid h1
        clear h1
        go_wp2_with fail
        refine (HH2.out).mono ?_
        rintro r w2 ⟨rfl, hE⟩
        obtain ⟨sv2, s2, h2, hw2, hp2, he2⟩ := hE
        have HW2 := Lib.hid h2
        have HWP := Lib.hid (⟨hw2, hp2, he2⟩ : s2.why = e ∧ s2.place = p ∧ e ≠ 0)
        have c5 := h2.rp.fld.2.2.2
        rw [hw2] at c5
        have q : ((e : Int) == 0) = false := by simp; omega
        have hcv := run_str (rd_nil w2) rfl
        clear h2 hw2 hp2 he2
        go_wp2_with fail
        go_ret
        exact ResP.badI HF.out ⟨⟨_, rfl⟩, .of (HW1.out.trans HW2.out) HWP.out.1 HWP.out.2.1 HWP.out.2.2⟩
    | ok l =>
      have hlo := takeD_ok hl
      have hll : l.length = n := by rw [hlo.2]; exact rest_len hlo.1
      have HL := Lib.hid hl
      have HLL := Lib.hid hll
      obtain ⟨str, hstr⟩ : ∃ str : ByteArray, (⟨l.toArray⟩ : ByteArray) = str := ⟨_, rfl⟩
      have hsz : str.size = n := by rw [← hstr, ba_size, hll]
      have hsl : str.data.toList = l := by rw [← hstr]
      have HSL := Lib.hid hsl
      have HSZ := Lib.hid hsz
      have HSTR := Lib.hid hstr
      obtain ⟨b, hb⟩ : ∃ b, rightL l = b := ⟨_, rfl⟩
      have HF : Hid (textD bs s.pos tag s.tag = if b then .ok (str, s.pos + k + n) else .bad 20 s.tag) := Lib.hid (by rw [HX.out, hn]; simp only [Res.bind]; rw [hl]; simp only; rw [hb, hstr])
      have HB := Lib.hid hb
      clear H1 hn hno hnb hl hlo hll hstr hsz hsl hb
      rcases htag with rfl | rfl
      all_goals
        simp at hk
        subst hk
        go_enter Tryd.func48, Tryd.ntmps48
        go_wp2_with fail
        refine (HH1.out).mono ?_
        rintro r w1 ⟨rfl, h1⟩
        have HH2 := Lib.hid (callsOk (take_res B rb bv sv bs _ n hlen hpos (by omega) w1 h1.rp HS.out) HL.out)
        have HW1 := Lib.hid h1
        clear h1
        go_wp2_with fail
        refine (HH2.out).mono ?_
        rintro r w2 ⟨⟨g, off, cap, rfl, hrd⟩, h2⟩
        have hcv := run_str hrd.now HLL.out
        rw [HSTR.out] at hcv
        have HW2 := Lib.hid (HW1.out.trans h2)
        have c5 := h2.rp.fld.2.2.2
        have hs0 : s.why = 0 := HS.out
        simp only at c5
        rw [hs0] at c5
        have H3 := eright_any str w2 (by rw [HSZ.out]; unfold maxLen; omega) (HT.out w2 (HW2.out.bel H.out))
        rw [HSL.out, HB.out] at H3
        have HH3 := Lib.hid H3
        clear h2 hrd H3 hs0
        go_wp2_with fail
        refine (HH3.out).mono ?_
        rintro r w3 ⟨rfl, hb3⟩
        have HW3 := Lib.hid (HW2.out.below hb3)
        clear hb3
        cases b with
        | true =>
          go_wp2_with fail
          go_ret
          exact ResP.okI HF.out ⟨rfl, HW3.out⟩
        | false =>
          have d2 := HW3.out.rp.fld.2.1
          have H4 := Lib.hid (fail_any B rb bv sv bs _ 20 s.tag w3 HW3.out.rp)
          simp only at d2
          go_wp2_with fail
          refine (H4.out).mono ?_
          rintro r w4 ⟨rfl, h4⟩
          have HW4 := Lib.hid h4
          clear h4 d2
          go_wp2_with fail
          go_ret
          exact ResP.badI HF.out ⟨⟨_, rfl⟩, .fail (HW3.out.trans HW4.out) HS.out (by omega)⟩
end Go.Proofs.YtkhjdcnlpablkaaDoor
