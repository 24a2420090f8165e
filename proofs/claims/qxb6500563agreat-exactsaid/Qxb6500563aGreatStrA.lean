/-
  The real decoder: its registers, and the small moves.
-/
import Derived.Test.Qxb6500563aGreatBlkN
namespace Go.Proofs.Qxb6500563aGreat
open Go.Den Go.Zip
set_option linter.unusedVariables false
set_option linter.unusedSimpArgs false
variable {w w' : World} {B : Nat}

/-- All that the decoder's leg holds. -/
structure RS where
  held : Bool
  ph : Nat
  fin : Nat
  spot : Nat
  head : Nat
  due : Nat
  idx : Nat
  run : Nat
  base : Nat
  more : Nat
  wi : Nat
  fill : Nat
  n : Nat
  total : Nat
  fed : Nat
  ln : Nat → Nat
  rg : Nat → Nat
  bf : Nat → Nat
  bits : List Bool
  cur : Nat
  sa : CS
  sb : CS
def recD (B : Nat) (r : RS) : List Value :=
  [.pointer (some ⟨B + 1, 0, none⟩), .pointer (some ⟨B + 2, 0, none⟩), .pointer (some ⟨B + 13, 0, none⟩), .bool r.held, .int .i64 r.ph, .int .i64 r.fin, .int .i64 r.spot, .int .i64 r.head, .int .i64 r.due,
   .slice (some ⟨B + 25, 0, none⟩) 273 273, .int .i64 r.idx, .int .i64 r.run, .int .i64 r.base, .int .i64 r.more, .slice (some ⟨B + 26, 0, none⟩) 16 16, .int .i64 r.wi, .int .i64 r.fill,
   .slice (some ⟨B + 27, 0, none⟩) 256 256, .int .i64 r.n, .int .i64 r.total, .int .i64 r.fed]
structure RW (w : World) (B : Nat) (r : RS) : Prop where
  tape : RTape w B r.bits r.cur
  ca : RC w (B + 2) r.sa
  cb : RC w (B + 13) r.sb
  rc : Blk w (B + 24) (recD B r)
  lens : Blk w (B + 25) (nats 273 r.ln)
  ring : Blk w (B + 26) (byts (tab 16 r.rg))
  buf : Blk w (B + 27) (byts (tab 256 r.bf))
variable {r : RS}
theorem RC.heq {C : Nat} {s : CS} (h : RC w C s) (e : w'.heap = w.heap) : RC w' C s := by
  obtain ⟨t, h1, h2, h3⟩ := h.ex
  exact ⟨t, h1.heq e, h2, h3⟩
theorem RTape.heq {bits : List Bool} {cur : Nat} (h : RTape w B bits cur) (e : w'.heap = w.heap) : RTape w' B bits cur := ⟨h.buf.heq e, h.rcd.heq e, h.len, h.cur⟩
theorem RW.heq (h : RW w B r) (e : w'.heap = w.heap) : RW w' B r := ⟨h.tape.heq e, h.ca.heq e, h.cb.heq e, h.rc.heq e, h.lens.heq e, h.ring.heq e, h.buf.heq e⟩
theorem RW.drew (h : RW w B r) : RW w.drew B r := h.heq rfl
theorem RW.fr {p n : Nat} (h : RW w B r) (f : Fr p n w w') (hb : B + 28 ≤ p ∨ p + n ≤ B) : RW w' B r :=
  ⟨h.tape.fr f (by omega), h.ca.fr f (by omega), h.cb.fr f (by omega), h.rc.fr f (by omega), h.lens.fr f (by omega), h.ring.fr f (by omega), h.buf.fr f (by omega)⟩
/-- A register turns. -/
theorem RW.reg (h : RW w B r) {r' : RS} (hb : Blk w' (B + 24) (recD B r')) (f : Fr (B + 24) 1 w w') (e1 : r'.ln = r.ln := by rfl) (e2 : r'.rg = r.rg := by rfl) (e3 : r'.bf = r.bf := by rfl) (e4 : r'.bits = r.bits := by rfl) (e5 : r'.cur = r.cur := by rfl) (e6 : r'.sa = r.sa := by rfl) (e7 : r'.sb = r.sb := by rfl) : RW w' B r' :=
  ⟨by rw [e4, e5]; exact h.tape.fr f (by omega), by rw [e6]; exact h.ca.fr f (by omega), by rw [e7]; exact h.cb.fr f (by omega), hb, by rw [e1]; exact h.lens.fr f (by omega), by rw [e2]; exact h.ring.fr f (by omega), by rw [e3]; exact h.buf.fr f (by omega)⟩
theorem RW.setTape (h : RW w B r) {bits : List Bool} {cur : Nat} (ht : RTape w' B bits cur) (f : Fr B 2 w w') : RW w' B { r with bits := bits, cur := cur } :=
  ⟨ht, h.ca.fr f (by omega), h.cb.fr f (by omega), h.rc.fr f (by omega), h.lens.fr f (by omega), h.ring.fr f (by omega), h.buf.fr f (by omega)⟩
theorem RW.setCur (h : RW w B r) {cur : Nat} (ht : RTape w' B r.bits cur) (f : Fr B 2 w w') : RW w' B { r with cur := cur } := h.setTape ht f
theorem RW.setCa (h : RW w B r) {s : CS} (hc : RC w' (B + 2) s) (f : Fr (B + 2) 11 w w') : RW w' B { r with sa := s } :=
  ⟨h.tape.fr f (by omega), hc, h.cb.fr f (by omega), h.rc.fr f (by omega), h.lens.fr f (by omega), h.ring.fr f (by omega), h.buf.fr f (by omega)⟩
theorem RW.setCb (h : RW w B r) {s : CS} (hc : RC w' (B + 13) s) (f : Fr (B + 13) 11 w w') : RW w' B { r with sb := s } :=
  ⟨h.tape.fr f (by omega), h.ca.fr f (by omega), hc, h.rc.fr f (by omega), h.lens.fr f (by omega), h.ring.fr f (by omega), h.buf.fr f (by omega)⟩
theorem RW.setLn (h : RW w B r) {v : Nat → Nat} (hb : Blk w' (B + 25) (nats 273 v)) (f : Fr (B + 25) 1 w w') : RW w' B { r with ln := v } :=
  ⟨h.tape.fr f (by omega), h.ca.fr f (by omega), h.cb.fr f (by omega), h.rc.fr f (by omega), hb, h.ring.fr f (by omega), h.buf.fr f (by omega)⟩
theorem RW.setRg (h : RW w B r) {v : Nat → Nat} (hb : Blk w' (B + 26) (byts (tab 16 v))) (f : Fr (B + 26) 1 w w') : RW w' B { r with rg := v } :=
  ⟨h.tape.fr f (by omega), h.ca.fr f (by omega), h.cb.fr f (by omega), h.rc.fr f (by omega), h.lens.fr f (by omega), hb, h.buf.fr f (by omega)⟩
theorem RW.setBf (h : RW w B r) {v : Nat → Nat} (hb : Blk w' (B + 27) (byts (tab 256 v))) (f : Fr (B + 27) 1 w w') : RW w' B { r with bf := v } :=
  ⟨h.tape.fr f (by omega), h.ca.fr f (by omega), h.cb.fr f (by omega), h.rc.fr f (by omega), h.lens.fr f (by omega), h.ring.fr f (by omega), hb⟩
theorem RW.lt (h : RW w B r) : B + 27 < w.heap.size := h.buf.lt

/-- Reading and writing a row of bytes given as a table. -/
theorem rdT {b n i m : Nat} {f : Nat → Nat} {K : Int → Prop} (h : Blk w b (byts (tab n f))) (hi : i < n) (hk : K (f i : Int)) (hm : m = n := by rfl) : Ix (some ⟨b, 0, none⟩) m (i : Int) fun b o => LdI .u8 w ⟨b, o + Int.toNat (i : Int) * 1, none⟩ K :=
  ix rfl (by omega) (by omega) (ldU h (by rw [Int.toNat_natCast]; exact tab_get hi) hk)
theorem wrT {b n i v m : Nat} {f : Nat → Nat} {x : Int} {K : World → Prop} (h : Blk w b (byts (tab n f))) (hi : i < n) (hx : x = (v : Int))
    (hk : ∀ w', Blk w' b (byts (tab n (fset f i v))) → Fr b 1 w w' → w'.heap.size = w.heap.size → K w') (hm : m = n := by rfl) : Ix (some ⟨b, 0, none⟩) m (i : Int) fun b o => St1 w ⟨b, o + Int.toNat (i : Int) * 1, none⟩ (.int .u8 x) K :=
  ix rfl (by omega) (by omega) (stU h (by rw [Int.toNat_natCast]; simpa using hi) hx (by rw [Int.toNat_natCast, tab_set]; exact hk))

/-- The coders hold the fixed sets where the decoder says so. -/
def heldOK (r : RS) : Prop := r.held = true → HoldsC r.sa 265 fixL ∧ HoldsC r.sb 8 (hiL fixL)
/-- The registers are those of the plain machine's state; m0: the output's length as this Feed began. -/
def Rel (r : RS) (s : DS) (m0 : Nat) : Prop :=
  r.ph = s.ph ∧ r.cur = s.cur ∧ r.fin = s.fin ∧ (s.ph = 3 → r.due = s.due) ∧ (s.ph = 4 → r.idx = s.idx ∧ ∀ i, i < s.idx → r.ln i = s.ln i) ∧ (6 ≤ s.ph → s.ph ≤ 7 → r.run = s.run) ∧
  (s.ph = 7 → r.base = dBase s.dc ∧ r.more = dMore s.dc) ∧ (r.wi = s.out.length % 16 ∧ r.fill = min s.out.length 16 ∧ r.total = s.out.length ∧ r.n + m0 = s.out.length) ∧
  (∀ i, i < r.n → r.bf i = s.out.getD (m0 + i) 0) ∧ (∀ j, j < s.out.length → s.out.length ≤ j + 16 → r.rg (j % 16) = s.out.getD j 0) ∧
  (5 ≤ s.ph → s.ph ≤ 7 → HoldsC r.sa 265 s.set ∧ HoldsC r.sb 8 (hiL s.set)) ∧ heldOK r
def SameR (r r' : RS) : Prop := r'.bits = r.bits ∧ r'.fed = r.fed
def SameE (r r' : RS) : Prop := r'.bits = r.bits ∧ r'.fed = r.fed ∧ r'.n = r.n ∧ r'.bf = r.bf

def giveR (r : RS) (c : Nat) : RS :=
  { r with bf := fset r.bf r.n c, n := r.n + 1, rg := fset r.rg r.wi c, wi := if r.wi + 1 = 16 then 0 else r.wi + 1, fill := if r.fill < 16 then r.fill + 1 else r.fill, total := r.total + 1 }
theorem getD_app {l : List Nat} {i x : Nat} (h : i < l.length) : (l ++ [x]).getD i 0 = l.getD i 0 := by
  simp [List.getD, List.getElem?_append_left h]
theorem getD_last {l : List Nat} {x : Nat} : (l ++ [x]).getD l.length 0 = x := by simp [List.getD]
theorem give_rel {s : DS} {m0 c : Nat} (q : Rel r s m0) : Rel (giveR r c) { s with out := s.out ++ [c] } m0 := by
  obtain ⟨q1, q2, q3, q4, q5, q6, q7, ⟨q8, q9, q10, q11⟩, q12, q13, q14, q15⟩ := q
  refine ⟨q1, q2, q3, q4, q5, q6, q7, ⟨?_, ?_, ?_, ?_⟩, fun i hi => ?_, fun j hj hj' => ?_, q14, q15⟩
  · show (if r.wi + 1 = 16 then 0 else r.wi + 1) = (s.out ++ [c]).length % 16
    rw [List.length_append, List.length_singleton]
    split <;> omega
  · show (if r.fill < 16 then r.fill + 1 else r.fill) = min (s.out ++ [c]).length 16
    rw [List.length_append, List.length_singleton]
    split <;> omega
  · show r.total + 1 = (s.out ++ [c]).length
    simp; omega
  · show r.n + 1 + m0 = (s.out ++ [c]).length
    simp; omega
  · show fset r.bf r.n c i = (s.out ++ [c]).getD (m0 + i) 0
    have hi : i < r.n + 1 := hi
    unfold fset
    by_cases e : i = r.n
    · rw [if_pos e, show m0 + i = s.out.length from by omega, getD_last]
    · rw [if_neg e, q12 i (by omega), getD_app (by omega)]
  · show fset r.rg r.wi c (j % 16) = (s.out ++ [c]).getD j 0
    have hj : j < (s.out ++ [c]).length := hj
    have hj' : (s.out ++ [c]).length ≤ j + 16 := hj'
    rw [List.length_append, List.length_singleton] at hj hj'
    unfold fset
    by_cases e : j = s.out.length
    · subst e
      rw [if_pos (by omega), getD_last]
    · rw [if_neg (by omega), q13 j (by omega) (by omega), getD_app (by omega)]
theorem stream_give_spec {c : Nat} {K : World → Prop} (h : RW w B r) (hn : r.n < 256) (hw : r.wi < 16) (hf : r.fill ≤ 16) (ht : r.total < 256) (hK : ∀ w', RW w' B (giveR r c) → Fr B 28 w w' → K w') : S.stream_Decoder_give (B + 24) (c : Int) w K := by
  unfold S.stream_Decoder_give
  refine drew_ (ldS h.drew.rc rfl (ldI h.drew.rc rfl ?_))
  refine wrT h.drew.buf hn rfl fun w1 d1 f1 _ => ?_
  have f1 : Fr (B + 27) 1 w w1 := f1
  have h1 := h.setBf d1 f1
  refine ldI h1.rc rfl (st1 h1.rc (by simp [recD]) fun w2 d2 f2 _ => ?_)
  rw [W_succ (by show r.n < _; omega)] at d2
  have h2 := h1.reg (r' := { r with bf := fset r.bf r.n c, n := r.n + 1 }) d2 f2
  refine drew_ (ldS h2.drew.rc rfl (ldI h2.drew.rc rfl ?_))
  refine wrT h2.drew.ring hw rfl fun w3 d3 f3 _ => ?_
  have f3 : Fr (B + 26) 1 w2 w3 := f3
  have h3 := h2.setRg d3 f3
  refine ldI h3.rc rfl (st1 h3.rc (by simp [recD]) fun w4 d4 f4 _ => ?_)
  rw [W_succ (by show r.wi < _; omega)] at d4
  have h4 := h3.reg (r' := { r with bf := fset r.bf r.n c, n := r.n + 1, rg := fset r.rg r.wi c, wi := r.wi + 1 }) d4 f4
  refine ldI h4.rc rfl (join_ ?_)
  have fr4 : Fr B 28 w w4 := (((f1.mono (by omega) (by omega)).trans (f2.mono (by omega) (by omega))).trans (f3.mono (by omega) (by omega))).trans (f4.mono (by omega) (by omega))
  have cont : ∀ (wi : Nat) w5, RW w5 B { r with bf := fset r.bf r.n c, n := r.n + 1, rg := fset r.rg r.wi c, wi := wi } → Fr B 28 w w5 → wi = (if r.wi + 1 = 16 then 0 else r.wi + 1) → (LdI .i64 w5 ⟨B + 24, 16, none⟩ fun fill_12 =>
    Join (fun (w : World) =>
      LdI .i64 w ⟨B + 24, 19, none⟩ fun total_13 =>
      St1 w ⟨B + 24, 19, none⟩ (.int .i64 (W (total_13 + 1))) fun w =>
      K w) fun J14 =>
    if (decide (fill_12 < 16)) = true then
      LdI .i64 w5 ⟨B + 24, 16, none⟩ fun fill_15 =>
      St1 w5 ⟨B + 24, 16, none⟩ (.int .i64 (W (fill_15 + 1))) fun w =>
      J14 w
    else
      J14 w5) := by
    intro wi w5 h5 f5 hwi
    refine ldI h5.rc rfl (join_ ?_)
    by_cases hfl : r.fill < 16
    · rw [if_pos (by simp only [decide_eq_true_eq]; show (r.fill : Int) < 16; omega)]
      refine ldI h5.rc rfl (st1 h5.rc (by simp [recD]) fun w6 d6 f6 _ => ?_)
      rw [W_succ (by show r.fill < _; omega)] at d6
      have h6 := h5.reg (r' := { r with bf := fset r.bf r.n c, n := r.n + 1, rg := fset r.rg r.wi c, wi := wi, fill := r.fill + 1 }) d6 f6
      refine ldI h6.rc rfl (st1 h6.rc (by simp [recD]) fun w7 d7 f7 _ => ?_)
      rw [W_succ (by show r.total < _; omega)] at d7
      have h7 := h6.reg (r' := { r with bf := fset r.bf r.n c, n := r.n + 1, rg := fset r.rg r.wi c, wi := wi, fill := r.fill + 1, total := r.total + 1 }) d7 f7
      refine hK w7 ?_ ((f5.trans (f6.mono (by omega) (by omega))).trans (f7.mono (by omega) (by omega)))
      unfold giveR
      rw [← hwi, if_pos hfl]
      exact h7
    · rw [if_neg (by simp only [decide_eq_true_eq]; show ¬ (r.fill : Int) < 16; omega)]
      refine ldI h5.rc rfl (st1 h5.rc (by simp [recD]) fun w7 d7 f7 _ => ?_)
      rw [W_succ (by show r.total < _; omega)] at d7
      have h7 := h5.reg (r' := { r with bf := fset r.bf r.n c, n := r.n + 1, rg := fset r.rg r.wi c, wi := wi, total := r.total + 1 }) d7 f7
      refine hK w7 ?_ (f5.trans (f7.mono (by omega) (by omega)))
      unfold giveR
      rw [← hwi, if_neg hfl]
      exact h7
  by_cases hwe : r.wi + 1 = 16
  · rw [if_pos (by simp only [beq_iff_eq]; show ((r.wi + 1 : Nat) : Int) = 16; omega)]
    refine st1 h4.rc (by simp [recD]) fun w5 d5 f5 _ => ?_
    have h5 := h4.reg (r' := { r with bf := fset r.bf r.n c, n := r.n + 1, rg := fset r.rg r.wi c, wi := 0 }) d5 f5
    exact cont 0 w5 h5 (fr4.trans (f5.mono (by omega) (by omega))) (by rw [if_pos hwe])
  · rw [if_neg (by simp only [beq_iff_eq]; show ¬ ((r.wi + 1 : Nat) : Int) = 16; omega)]
    exact cont _ w4 h4 fr4 (by rw [if_neg hwe])

theorem stream_shut_spec {s : DS} {m0 : Nat} {K : World → Prop} (h : RW w B r) (q : Rel r s m0) (hf : s.fin ≤ 1) (hK : ∀ w' r', RW w' B r' → Rel r' (shutD r.bits s) m0 → SameR r r' → Fr B 28 w w' → K w') : S.stream_Decoder_shut (B + 24) w K := by
  unfold S.stream_Decoder_shut
  obtain ⟨q1, q2, q3, q4, q5, q6, q7, q8, q9, q10, q11, q12⟩ := q
  refine ldI h.rc rfl ?_
  unfold shutD at hK
  by_cases hz : s.fin = 0
  · rw [if_pos (by simp only [beq_iff_eq]; omega)]
    rw [if_pos hz] at hK
    refine st1 h.rc (by simp [recD]) fun w1 d1 f1 _ => ?_
    have h1 := h.reg (r' := { r with ph := 0 }) d1 f1
    exact hK w1 _ h1 ⟨rfl, q2, q3, fun h => by simp at h, fun h => by simp at h, fun h => by simp at h, fun h => by simp at h, q8, q9, q10, fun h => by simp at h, q12⟩ ⟨rfl, rfl⟩ (f1.mono (by omega) (by omega))
  · rw [if_neg (by simp only [beq_iff_eq]; omega)]
    rw [if_neg hz] at hK
    refine ldP h.rc rfl ?_
    refine sync_spec h.tape fun w1 t1 f1 => ?_
    have h1 := h.setCur t1 f1
    refine st1 h1.rc (by simp [recD]) fun w2 d2 f2 _ => ?_
    have h2 := h1.reg (r' := { r with cur := min ((r.cur + 7) / 8 * 8) r.bits.length, ph := 8 }) d2 f2
    refine hK w2 _ h2 ⟨rfl, ?_, q3, fun h => by simp at h, fun h => by simp at h, fun h h' => by simp at h', fun h => by simp at h, q8, q9, q10, fun h h' => by simp at h', q12⟩ ⟨rfl, rfl⟩ ((f1.mono (by omega) (by omega)).trans (f2.mono (by omega) (by omega)))
    show min ((r.cur + 7) / 8 * 8) r.bits.length = min (syncN s.cur) r.bits.length
    rw [q2]; rfl

/-- The two sets are built out of the lengths that lie ready. -/
theorem stream_sets_spec {K : Int → World → Prop} (h : RW w B r) (hl : ∀ i, i < 273 → r.ln i ≤ 10)
    (hbad : setsE r.ln ≠ 0 → ∀ w' r', RW w' B r' → heldOK r' → SameE r r' → Fr B 28 w w' → K (setsE r.ln : Int) w')
    (hK : setsE r.ln = 0 → ∀ w' sa sb, RW w' B { r with spot := r.head, held := false, sa := sa, sb := sb, ph := 5 } → HoldsC sa 265 r.ln → HoldsC sb 8 (hiL r.ln) → Fr B 28 w w' → K 0 w') : S.stream_Decoder_sets (B + 24) w K := by
  unfold S.stream_Decoder_sets
  refine ldI h.rc rfl (st1 h.rc (by simp [recD]) fun w1 d1 f1 _ => ?_)
  have h1 := h.reg (r' := { r with spot := r.head }) d1 f1
  refine st1 h1.rc (by simp [recD]) fun w2 d2 f2 _ => ?_
  have h2 := h1.reg (r' := { r with spot := r.head, held := false }) d2 f2
  refine drew_ (ldP h2.drew.rc rfl (ldS h2.drew.rc rfl ?_))
  refine cutS (lo := 0) (hi := 265) (mx := 273) (bb := B + 25) rfl (by omega) (by omega) (by show 273 ≤ 273; omega) (by omega) ?_
  have fr2 : Fr B 28 w w2 := (f1.mono (by omega) (by omega)).trans (f2.mono (by omega) (by omega))
  have i1 : IS w2.drew ⟨some ⟨B + 25, 0 * 1, none⟩, 265 - 0, 273 - 0⟩ (B + 25) 265 r.ln := by
    have := IS.win (c := 273) (o := 0) (n := 265) h2.drew.lens (by omega)
    simpa using this
  refine huff_Build_spec (l := r.ln) (n := 265) h2.drew.ca i1 (by omega) (by omega) (fun i hi => hl i (by omega)) (fun hz w3 f3 => ?_) (fun hz w3 sa c3 H3 f3 => ?_)
  · rw [if_pos (by simp only [bne_iff_ne, ne_eq]; omega)]
    have f3 : Fr 0 0 w2 w3 := f3
    have hse : setsE r.ln = checkE 265 r.ln := by unfold setsE; rw [if_pos hz]
    rw [hse] at hbad
    exact hbad hz w3 _ (h2.fr f3 (by omega)) (fun hh => by cases hh) ⟨rfl, rfl, rfl, rfl⟩ (fr2.then0 f3)
  rw [if_neg (by simp)]
  have f3 : Fr (B + 2) 11 w2 w3 := f3
  have h3 := h2.setCa c3 f3
  have fr3 := fr2.trans (f3.mono (q := B) (m := 28) (by omega) (by omega))
  refine drew_ (ldP h3.drew.rc rfl (ldS h3.drew.rc rfl ?_))
  refine cutS (lo := 265) (hi := 273) (mx := 273) (bb := B + 25) rfl (by omega) (by omega) (by show 273 ≤ 273; omega) (by omega) ?_
  have i2 : IS w3.drew ⟨some ⟨B + 25, 265 * 1, none⟩, 273 - 265, 273 - 265⟩ (B + 25) 8 (hiL r.ln) := IS.win (c := 8) (o := 265) (n := 8) h3.drew.lens (by omega)
  refine huff_Build_spec (l := hiL r.ln) (n := 8) h3.drew.cb i2 (by omega) (by omega) (fun i hi => hl (265 + i) (by omega)) (fun hz2 w4 f4 => ?_) (fun hz2 w4 sb c4 H4 f4 => ?_)
  · rw [if_pos (by simp only [bne_iff_ne, ne_eq]; omega)]
    have f4 : Fr 0 0 w3 w4 := f4
    have hse : setsE r.ln = checkE 8 (hiL r.ln) := by unfold setsE; rw [if_neg (by simpa using hz), if_pos hz2]
    rw [hse] at hbad
    exact hbad hz2 w4 _ (h3.fr f4 (by omega)) (fun hh => by cases hh) ⟨rfl, rfl, rfl, rfl⟩ (fr3.then0 f4)
  rw [if_neg (by simp)]
  have f4 : Fr (B + 13) 11 w3 w4 := f4
  have h4 := h3.setCb c4 f4
  have fr4 := fr3.trans (f4.mono (q := B) (m := 28) (by omega) (by omega))
  refine ldS h4.rc rfl (rdN (i := 256) h4.lens (by omega) ?_)
  by_cases h256 : r.ln 256 = 0
  · rw [if_pos (by simp only [beq_iff_eq]; show (r.ln 256 : Int) = 0; omega)]
    have hse : setsE r.ln = 8 := by unfold setsE; rw [if_neg (by simpa using hz), if_neg (by simpa using hz2), if_pos h256]
    rw [hse] at hbad
    exact hbad (by omega) w4 _ h4 (fun hh => by cases hh) ⟨rfl, rfl, rfl, rfl⟩ fr4
  · rw [if_neg (by simp only [beq_iff_eq]; show ¬ (r.ln 256 : Int) = 0; omega)]
    have hse : setsE r.ln = 0 := by unfold setsE; rw [if_neg (by simpa using hz), if_neg (by simpa using hz2), if_neg h256]
    refine st1 h4.rc (by simp [recD]) fun w5 d5 f5 _ => ?_
    have h5 := h4.reg (r' := { r with spot := r.head, held := false, sa := sa, sb := sb, ph := 5 }) d5 f5
    exact hK hse w5 sa sb h5 H3 H4 (fr4.trans (f5.mono (by omega) (by omega)))

set_option maxRecDepth 10000 in
theorem stream_fixed_spec {K : World → Prop} (h : RW w B r) (hK : ∀ w', RW w' B { r with ln := fixL } → Fr B 28 w w' → K w') : S.stream_Decoder_fixed (B + 24) w K := by
  unfold S.stream_Decoder_fixed
  refine join_ ?_
  refine loopN (fun m st v => ∃ i : Nat, st = ((i : Int), ()) ∧ m + i = 265 ∧ RW v B { r with ln := mix i fixL r.ln } ∧ Fr B 28 w v) 265 ⟨0, rfl, rfl, by rw [mix_zero]; exact h, Fr.refl _ _ _⟩ ?_
  rintro m _ v ⟨i, rfl, hm, hv, fv⟩ Q hQ
  dsimp only
  by_cases hi : i < 265
  · rw [if_pos (by simp only [decide_eq_true_eq]; omega)]
    refine drew_ ?_
    show Hold _ _ _ _
    unfold Hold
    refine ldS hv.drew.rc rfl ?_
    refine api_FixedLen_spec hi ⟨fun i hi => rfl, ?_⟩
    refine wrN hv.drew.lens (by omega) rfl fun v2 d2 f2 _ => ?_
    have d2 : Blk v2 (B + 25) (nats 273 (fset (mix i fixL r.ln) i (fixL i))) := d2
    rw [mix_set] at d2
    have f2 : Fr (B + 25) 1 v v2 := f2
    rw [W_succ (by omega)]
    exact let_ (hQ (m - 1) _ _ (by omega) ⟨i + 1, rfl, by omega, hv.setLn d2 f2, fv.trans (f2.mono (by omega) (by omega))⟩)
  rw [if_neg (by simp only [decide_eq_true_eq]; omega)]
  have e : i = 265 := by omega
  subst e
  refine loopN (fun m st v => ∃ j : Nat, st = ((j : Int), ()) ∧ m + j = 8 ∧ RW v B { r with ln := mix (265 + j) fixL r.ln } ∧ Fr B 28 w v) 8 ⟨0, rfl, rfl, hv, fv⟩ ?_
  rintro m _ v ⟨j, rfl, hm, hv, fv⟩ Q hQ
  dsimp only
  by_cases hj : j < 8
  · rw [if_pos (by simp only [decide_eq_true_eq]; omega)]
    refine ldS hv.rc rfl ?_
    rw [show W (265 + (j : Int)) = ((265 + j : Nat) : Int) from by rw [W_id (by omega) (by omega)]; omega]
    refine wrN (v := fixL (265 + j)) hv.lens (by omega) (by unfold fixL; rw [if_neg (by omega), if_neg (by omega)]; rfl) fun v2 d2 f2 _ => ?_
    have d2 : Blk v2 (B + 25) (nats 273 (fset (mix (265 + j) fixL r.ln) (265 + j) (fixL (265 + j)))) := d2
    rw [mix_set] at d2
    rw [W_succ (by omega)]
    exact let_ (hQ (m - 1) _ _ (by omega) ⟨j + 1, rfl, by omega, hv.setLn d2 f2, fv.trans (f2.mono (by omega) (by omega))⟩)
  · rw [if_neg (by simp only [decide_eq_true_eq]; omega)]
    have e : j = 8 := by omega
    subst e
    refine hK v ⟨hv.tape, hv.ca, hv.cb, hv.rc, ?_, hv.ring, hv.buf⟩ fv
    have := hv.lens
    rw [nats_congr (g := fixL) (mix_all fixL r.ln)] at this
    exact this
end Go.Proofs.Qxb6500563aGreat
