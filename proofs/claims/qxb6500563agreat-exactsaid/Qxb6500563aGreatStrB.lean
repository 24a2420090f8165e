/-
  The real decoder: its turns are the plain machine's steps.
-/
import Derived.Test.Qxb6500563aGreatStrA
namespace Go.Proofs.Qxb6500563aGreat
open Go.Den Go.Zip
set_option linter.unusedVariables false
set_option linter.unusedSimpArgs false
variable {w w' : World} {B : Nat} {r : RS} {s : DS} {m0 : Nat} {K : Int → World → Prop}

def TurnE (w : World) (B : Nat) (r : RS) (s : DS) (m0 : Nat) (K : Int → World → Prop) : Prop :=
  ∀ (e : Nat) w' r', e ≠ 0 → (step r.bits s).1 = e → RW w' B r' → heldOK r' → (e = 4 → Rel r' s m0) → SameE r r' → Fr B 28 w w' → K (e : Int) w'
def TurnK (w : World) (B : Nat) (r : RS) (s : DS) (m0 : Nat) (K : Int → World → Prop) : Prop :=
  ∀ s' w' r', step r.bits s = (0, s') → RW w' B r' → Rel r' s' m0 → SameR r r' → Fr B 28 w w' → K 0 w'
theorem Rel.held (q : Rel r s m0) : heldOK r := q.2.2.2.2.2.2.2.2.2.2.2
theorem HoldsC.ext {s t : CS} {n : Nat} {l : Nat → Nat} (h : HoldsC s n l) (e : Ext s t) : HoldsC t n l := by
  obtain ⟨e1, e2, e3, e4, e5, e6⟩ := e
  exact ⟨by rw [e1]; exact h.sz, by rw [e3]; exact h.lens, by rw [e4]; exact h.code, by rw [e5, e6]; exact h.tabs⟩
theorem rc_Find {C n a hv : Nat} {c : CS} {l : Nat → Nat} {K : Int → Int → Int → World → Prop} (h : RC w C c) (H : HoldsC c n l) (L : Lens n l) (hc : checkE n l = 0) (hn : n ≤ 265) (hh : hv ≤ 16) (ha : a < 2 ^ hv)
    (hK : K ((findR n l a hv).1 : Int) ((findR n l a hv).2.1 : Int) ((findR n l a hv).2.2 : Int) w) : S.huff_Coder_Find C (a : Int) (hv : Int) w K := by
  obtain ⟨t, h1, h2, h3⟩ := h.ex
  exact huff_Find_spec h1 (H.ext h2) L hc hn hh ha hK
theorem rc_Code {C n i : Nat} {c : CS} {l : Nat → Nat} {K : Int → Int → Int → World → Prop} (h : RC w C c) (H : HoldsC c n l) (hn : n ≤ 265) (hi : i < n) (hl : 0 < l i) (hK : ∀ w', w'.heap = w.heap → K (codeOf n l i : Int) (l i : Int) 0 w') : S.huff_Coder_Code C (i : Int) w K := by
  obtain ⟨t, h1, h2, h3⟩ := h.ex
  exact huff_Code_spec h1 (H.ext h2) hn hi hl hK

theorem stream_turnFinal_spec (h : RW w B r) (q : Rel r s m0) (hp : s.ph = 0) (hE : TurnE w B r s m0 K) (hK : TurnK w B r s m0 K) : S.stream_Decoder_turnFinal (B + 24) w K := by
  unfold S.stream_Decoder_turnFinal
  have hst := step0 (bits := r.bits) hp
  unfold stFinal at hst
  have q0 := q
  obtain ⟨q1, q2, q3, q4, q5, q6, q7, q8, q9, q10, q11, q12⟩ := q
  refine ldP h.rc rfl (pos_spec h.tape (st1 h.rc (by simp [recD]) fun w1 d1 f1 _ => ?_))
  have h1 := h.reg (r' := { r with spot := r.cur }) d1 f1
  refine ldP h1.rc rfl ?_
  have F1 : Fr B 28 w w1 := f1.mono (by omega) (by omega)
  refine take_spec (k := 1) h1.tape (by omega) (fun hl w2 t2 f2 => ?_) fun hl w2 t2 f2 => ?_
  · rw [if_pos (by simp)]
    rw [if_pos (by rw [← q2]; exact hl)] at hst
    exact hE 4 w2 _ (by omega) (by rw [hst]) (h1.setCur t2 f2) q12 (fun _ => q0) ⟨rfl, rfl, rfl, rfl⟩ (F1.trans (f2.mono (by omega) (by omega)))
  · rw [if_neg (by simp)]
    have hl : r.cur + 1 ≤ r.bits.length := hl
    rw [if_neg (by omega)] at hst
    have h2 := h1.setCur t2 f2
    refine st1 h2.rc (by simp [recD]) fun w3 d3 f3 _ => ?_
    have h3 := h2.reg (r' := { r with spot := r.cur, cur := r.cur + 1, fin := num r.bits r.cur 1 }) d3 f3
    refine st1 h3.rc (by simp [recD]) fun w4 d4 f4 _ => ?_
    have h4 := h3.reg (r' := { r with spot := r.cur, cur := r.cur + 1, fin := num r.bits r.cur 1, ph := 1 }) d4 f4
    refine hK _ w4 _ hst h4 ⟨rfl, by show r.cur + 1 = s.cur + 1; omega, by show num r.bits r.cur 1 = num r.bits s.cur 1; rw [q2], fun h => by simp at h, fun h => by simp at h, fun h => by simp at h, fun h => by simp at h, q8, q9, q10, fun h => by simp at h, q12⟩ ⟨rfl, rfl⟩
      (((F1.trans (f2.mono (by omega) (by omega))).trans (f3.mono (by omega) (by omega))).trans (f4.mono (by omega) (by omega)))

theorem stream_turnKind_spec (h : RW w B r) (q : Rel r s m0) (hp : s.ph = 1) (hE : TurnE w B r s m0 K) (hK : TurnK w B r s m0 K) : S.stream_Decoder_turnKind (B + 24) w K := by
  unfold S.stream_Decoder_turnKind
  have hst := step1 (bits := r.bits) hp
  unfold stKind at hst
  have q0 := q
  obtain ⟨q1, q2, q3, q4, q5, q6, q7, q8, q9, q10, q11, q12⟩ := q
  refine ldP h.rc rfl (pos_spec h.tape (st1 h.rc (by simp [recD]) fun w1 d1 f1 _ => ?_))
  have h1 := h.reg (r' := { r with spot := r.cur }) d1 f1
  refine ldP h1.rc rfl ?_
  have F1 : Fr B 28 w w1 := f1.mono (by omega) (by omega)
  have htl := h.tape.len
  refine take_spec (k := 2) h1.tape (by omega) (fun hl w2 t2 f2 => ?_) fun hl w2 t2 f2 => ?_
  · rw [if_pos (by simp)]
    rw [if_pos (by rw [← q2]; exact hl)] at hst
    exact hE 4 w2 _ (by omega) (by rw [hst]) (h1.setCur t2 f2) q12 (fun _ => q0) ⟨rfl, rfl, rfl, rfl⟩ (F1.trans (f2.mono (by omega) (by omega)))
  rw [if_neg (by simp)]
  have hl : r.cur + 2 ≤ r.bits.length := hl
  rw [if_neg (by omega), ← q2] at hst
  have h2 := h1.setCur t2 f2
  have F2 := F1.trans (f2.mono (q := B) (m := 28) (by omega) (by omega))
  refine ldI h2.rc rfl (st1 h2.rc (by simp [recD]) fun w3 d3 f3 _ => ?_)
  rw [show W ((r.cur : Int) + 2) = ((r.cur + 2 : Nat) : Int) from by rw [W_id (by omega) (by omega)]; omega] at d3
  have h3 := h2.reg (r' := { r with spot := r.cur, cur := r.cur + 2, head := r.cur + 2 }) d3 f3
  have F3 := F2.trans (f3.mono (q := B) (m := 28) (by omega) (by omega))
  rw [show (ofBits (({ r with spot := r.cur } : RS).bits.drop ({ r with spot := r.cur } : RS).cur |>.take 2) : Int) = (num r.bits r.cur 2 : Int) from rfl]
  have hk4 : num r.bits r.cur 2 < 4 := num_lt' r.bits r.cur 2
  by_cases k0 : num r.bits r.cur 2 = 0
  · rw [if_pos (by simp only [beq_iff_eq]; omega)]
    rw [if_pos k0] at hst
    refine ldP h3.rc rfl (sync_spec h3.tape fun w4 t4 f4 => ?_)
    have h4 := h3.setCur t4 f4
    refine st1 h4.rc (by simp [recD]) fun w5 d5 f5 _ => ?_
    have h5 := h4.reg (r' := { r with spot := r.cur, cur := min ((r.cur + 2 + 7) / 8 * 8) r.bits.length, head := r.cur + 2, ph := 2 }) d5 f5
    exact hK _ w5 _ hst h5 ⟨rfl, rfl, q3, fun h => by simp at h, fun h => by simp at h, fun h => by simp at h, fun h => by simp at h, q8, q9, q10, fun h => by simp at h, q12⟩ ⟨rfl, rfl⟩
      ((F3.trans (f4.mono (by omega) (by omega))).trans (f5.mono (by omega) (by omega)))
  rw [if_neg (by simp only [beq_iff_eq]; omega)]
  rw [if_neg k0] at hst
  by_cases k1 : num r.bits r.cur 2 = 1
  · rw [if_pos (by simp only [beq_iff_eq]; omega)]
    rw [if_pos k1] at hst
    refine ldB h3.rc rfl ?_
    by_cases hh : r.held = true
    · rw [if_pos hh]
      refine st1 h3.rc (by simp [recD]) fun w4 d4 f4 _ => ?_
      have h4 := h3.reg (r' := { r with spot := r.cur, cur := r.cur + 2, head := r.cur + 2, ph := 5 }) d4 f4
      exact hK _ w4 _ hst h4 ⟨rfl, rfl, q3, fun h => by simp at h, fun h => by simp at h, fun h => by simp at h, fun h => by simp at h, q8, q9, q10, fun _ _ => q12 hh, q12⟩ ⟨rfl, rfl⟩ (F3.trans (f4.mono (by omega) (by omega)))
    · rw [if_neg hh]
      refine stream_fixed_spec h3 fun w4 h4 f4 => ?_
      refine stream_sets_spec h4 (fun i _ => fix_le i) (fun hne => absurd fix_sets hne) fun _ w5 sa sb h5 H1 H2 f5 => ?_
      refine st1 h5.rc (by simp [recD]) fun w6 d6 f6 _ => ?_
      have h6 := h5.reg (r' := { r with spot := r.cur + 2, cur := r.cur + 2, head := r.cur + 2, ph := 5, ln := fixL, sa := sa, sb := sb, held := true }) d6 f6
      exact hK _ w6 _ hst h6 ⟨rfl, rfl, q3, fun h => by simp at h, fun h => by simp at h, fun h => by simp at h, fun h => by simp at h, q8, q9, q10, fun _ _ => ⟨H1, H2⟩, fun _ => ⟨H1, H2⟩⟩ ⟨rfl, rfl⟩ (((F3.trans f4).trans f5).trans (f6.mono (by omega) (by omega)))
  rw [if_neg (by simp only [beq_iff_eq]; omega)]
  rw [if_neg k1] at hst
  by_cases k2 : num r.bits r.cur 2 = 2
  · rw [if_pos (by simp only [beq_iff_eq]; omega)]
    rw [if_pos k2] at hst
    refine st1 h3.rc (by simp [recD]) fun w4 d4 f4 _ => ?_
    have h4 := h3.reg (r' := { r with spot := r.cur, cur := r.cur + 2, head := r.cur + 2, idx := 0 }) d4 f4
    refine st1 h4.rc (by simp [recD]) fun w5 d5 f5 _ => ?_
    have h5 := h4.reg (r' := { r with spot := r.cur, cur := r.cur + 2, head := r.cur + 2, idx := 0, ph := 4 }) d5 f5
    exact hK _ w5 _ hst h5 ⟨rfl, rfl, q3, fun h => by simp at h, fun _ => ⟨rfl, fun i hi => by simp at hi⟩, fun h => by simp at h, fun h => by simp at h, q8, q9, q10, fun h => by simp at h, q12⟩ ⟨rfl, rfl⟩
      ((F3.trans (f4.mono (by omega) (by omega))).trans (f5.mono (by omega) (by omega)))
  · rw [if_neg (by simp only [beq_iff_eq]; omega)]
    rw [if_neg k2] at hst
    exact hE 5 w3 _ (by omega) (by rw [hst]) h3 q12 (fun h => by omega) ⟨rfl, rfl, rfl, rfl⟩ F3

theorem stream_turnSize_spec (h : RW w B r) (q : Rel r s m0) (hp : s.ph = 2) (hf : s.fin ≤ 1) (hE : TurnE w B r s m0 K) (hK : TurnK w B r s m0 K) : S.stream_Decoder_turnSize (B + 24) w K := by
  unfold S.stream_Decoder_turnSize
  have hst := step2 (bits := r.bits) hp
  unfold stSize at hst
  have q0 := q
  obtain ⟨q1, q2, q3, q4, q5, q6, q7, q8, q9, q10, q11, q12⟩ := q
  refine ldP h.rc rfl (pos_spec h.tape (st1 h.rc (by simp [recD]) fun w1 d1 f1 _ => ?_))
  have h1 := h.reg (r' := { r with spot := r.cur }) d1 f1
  refine ldP h1.rc rfl ?_
  have F1 : Fr B 28 w w1 := f1.mono (by omega) (by omega)
  refine take_spec (k := 16) h1.tape (by omega) (fun hl w2 t2 f2 => ?_) fun hl w2 t2 f2 => ?_
  · rw [if_pos (by simp)]
    rw [if_pos (by rw [← q2]; exact hl)] at hst
    exact hE 4 w2 _ (by omega) (by rw [hst]) (h1.setCur t2 f2) q12 (fun _ => q0) ⟨rfl, rfl, rfl, rfl⟩ (F1.trans (f2.mono (by omega) (by omega)))
  rw [if_neg (by simp)]
  have hl : r.cur + 16 ≤ r.bits.length := hl
  rw [if_neg (by omega), ← q2] at hst
  have h2 := h1.setCur t2 f2
  have F2 := F1.trans (f2.mono (q := B) (m := 28) (by omega) (by omega))
  refine st1 h2.rc (by simp [recD]) fun w3 d3 f3 _ => ?_
  have h3 := h2.reg (r' := { r with spot := r.cur, cur := r.cur + 16, due := num r.bits r.cur 16 }) d3 f3
  refine st1 h3.rc (by simp [recD]) fun w4 d4 f4 _ => ?_
  have h4 := h3.reg (r' := { r with spot := r.cur, cur := r.cur + 16, due := num r.bits r.cur 16, ph := 3 }) d4 f4
  have F4 := (F2.trans (f3.mono (q := B) (m := 28) (by omega) (by omega))).trans (f4.mono (q := B) (m := 28) (by omega) (by omega))
  rw [show (ofBits (({ r with spot := r.cur } : RS).bits.drop ({ r with spot := r.cur } : RS).cur |>.take 16) : Int) = (num r.bits r.cur 16 : Int) from rfl]
  by_cases k0 : num r.bits r.cur 16 = 0
  · rw [if_pos (by simp only [beq_iff_eq]; omega)]
    rw [if_pos k0] at hst
    refine stream_shut_spec (s := { s with ph := 3, due := 0, cur := r.cur + 16 }) (m0 := m0) h4 ⟨rfl, rfl, q3, fun _ => k0, fun h => by simp at h, fun h => by simp at h, fun h => by simp at h, q8, q9, q10, fun h => by simp at h, q12⟩ hf fun w5 r5 h5 R5 S5 f5 => ?_
    exact hK _ w5 r5 hst h5 R5 S5 (F4.trans f5)
  · rw [if_neg (by simp only [beq_iff_eq]; omega)]
    rw [if_neg k0] at hst
    exact hK _ w4 _ hst h4 ⟨rfl, rfl, q3, fun _ => rfl, fun h => by simp at h, fun h => by simp at h, fun h => by simp at h, q8, q9, q10, fun h => by simp at h, q12⟩ ⟨rfl, rfl⟩ F4

theorem stream_turnByte_spec (h : RW w B r) (q : Rel r s m0) (gd : GD r.bits s) (hp : s.ph = 3) (hE : TurnE w B r s m0 K) (hK : TurnK w B r s m0 K) : S.stream_Decoder_turnByte (B + 24) w K := by
  unfold S.stream_Decoder_turnByte
  have hst := step3 (bits := r.bits) hp
  unfold stByte at hst
  have q0 := q
  obtain ⟨q1, q2, q3, q4, q5, q6, q7, ⟨a1, a2, a3, a4⟩, q9, q10, q11, q12⟩ := q
  refine ldP h.rc rfl (pos_spec h.tape (st1 h.rc (by simp [recD]) fun w1 d1 f1 _ => ?_))
  have h1 := h.reg (r' := { r with spot := r.cur }) d1 f1
  refine ldP h1.rc rfl ?_
  have F1 : Fr B 28 w w1 := f1.mono (by omega) (by omega)
  refine take_spec (k := 8) h1.tape (by omega) (fun hl w2 t2 f2 => ?_) fun hl w2 t2 f2 => ?_
  · rw [if_pos (by simp)]
    rw [if_pos (by rw [← q2]; exact hl)] at hst
    exact hE 4 w2 _ (by omega) (by rw [hst]) (h1.setCur t2 f2) q12 (fun _ => q0) ⟨rfl, rfl, rfl, rfl⟩ (F1.trans (f2.mono (by omega) (by omega)))
  rw [if_neg (by simp)]
  have hl : r.cur + 8 ≤ r.bits.length := hl
  rw [if_neg (by omega), ← q2] at hst
  have h2 := h1.setCur t2 f2
  have F2 := F1.trans (f2.mono (q := B) (m := 28) (by omega) (by omega))
  refine ldI h2.rc rfl ?_
  by_cases hfull : 256 ≤ s.out.length
  · rw [if_pos (by simp only [decide_eq_true_eq]; show (r.total : Int) ≥ 256; omega)]
    rw [if_pos hfull] at hst
    exact hE 10 w2 _ (by omega) (by rw [hst]) h2 q12 (fun h => by omega) ⟨rfl, rfl, rfl, rfl⟩ F2
  rw [if_neg (by simp only [decide_eq_true_eq]; show ¬ (r.total : Int) ≥ 256; omega)]
  rw [if_neg hfull] at hst
  have hx : num r.bits r.cur 8 < 256 := num_lt' r.bits r.cur 8
  rw [show (ofBits (({ r with spot := r.cur } : RS).bits.drop ({ r with spot := r.cur } : RS).cur |>.take 8) : Int) = (num r.bits r.cur 8 : Int) from rfl, U8_nat, Nat.mod_eq_of_lt hx]
  refine stream_give_spec h2 (by show r.n < 256; omega) (by show r.wi < 16; omega) (by show r.fill ≤ 16; omega) (by show r.total < 256; omega) fun w3 h3 f3 => ?_
  obtain ⟨g1, g2⟩ := gd.due hp
  have hdue := q4 hp
  have R3 : Rel (giveR { r with spot := r.cur, cur := r.cur + 8 } (num r.bits r.cur 8)) { s with cur := r.cur + 8, out := s.out ++ [num r.bits r.cur 8] } m0 :=
    give_rel (r := { r with spot := r.cur, cur := r.cur + 8 }) (s := { s with cur := r.cur + 8 }) ⟨q1, rfl, q3, q4, q5, q6, q7, ⟨a1, a2, a3, a4⟩, q9, q10, q11, q12⟩
  refine ldI h3.rc rfl (st1 h3.rc (by simp [recD]) fun w4 d4 f4 _ => ?_)
  have hd1 : W ((r.due : Int) - 1) = ((r.due - 1 : Nat) : Int) := by rw [W_id (by omega) (by omega)]; omega
  have d4 : Blk w4 (B + 24) ((recD B (giveR { r with spot := r.cur, cur := r.cur + 8 } (num r.bits r.cur 8))).set 8 (.int .i64 (W ((r.due : Int) - 1)))) := d4
  rw [hd1] at d4
  have h4 := h3.reg (r' := { giveR { r with spot := r.cur, cur := r.cur + 8 } (num r.bits r.cur 8) with due := r.due - 1 }) d4 f4
  have F4 := (F2.trans f3).trans (f4.mono (q := B) (m := 28) (by omega) (by omega))
  obtain ⟨p1, p2, p3, p4, p5, p6, p7, p8, p9, p10, p11, p12⟩ := R3
  have R4 : Rel { giveR { r with spot := r.cur, cur := r.cur + 8 } (num r.bits r.cur 8) with due := r.due - 1 } { s with due := s.due - 1, out := s.out ++ [num r.bits r.cur 8], cur := r.cur + 8 } m0 :=
    ⟨p1, p2, p3, fun _ => by show r.due - 1 = s.due - 1; omega, p5, p6, p7, p8, p9, p10, p11, p12⟩
  refine ldI h4.rc rfl ?_
  by_cases k0 : s.due - 1 = 0
  · rw [if_pos (by simp only [beq_iff_eq]; show ((r.due - 1 : Nat) : Int) = 0; omega)]
    rw [if_pos k0] at hst
    refine stream_shut_spec h4 R4 gd.fin fun w5 r5 h5 R5 S5 f5 => ?_
    exact hK _ w5 r5 hst h5 R5 S5 (F4.trans f5)
  · rw [if_neg (by simp only [beq_iff_eq]; show ¬ ((r.due - 1 : Nat) : Int) = 0; omega)]
    rw [if_neg k0] at hst
    exact hK _ w4 _ hst h4 R4 ⟨rfl, rfl⟩ F4

set_option maxRecDepth 10000 in
theorem stream_turnSym_spec (h : RW w B r) (q : Rel r s m0) (gd : GD r.bits s) (hp : s.ph = 5) (hE : TurnE w B r s m0 K) (hK : TurnK w B r s m0 K) : S.stream_Decoder_turnSym (B + 24) w K := by
  unfold S.stream_Decoder_turnSym
  have hst := step5 (bits := r.bits) hp
  unfold stSym at hst
  have q0 := q
  obtain ⟨q1, q2, q3, q4, q5, q6, q7, ⟨a1, a2, a3, a4⟩, q9, q10, q11, q12⟩ := q
  obtain ⟨hset, hle⟩ := gd.set (by omega) (by omega)
  obtain ⟨c1, c2, c3, L1, L2⟩ := sets_lens hset hle
  obtain ⟨H1, H2⟩ := q11 (by omega) (by omega)
  have hcur := gd.cur
  refine ldP h.rc rfl (pos_spec h.tape (st1 h.rc (by simp [recD]) fun w1 d1 f1 _ => ?_))
  have h1 := h.reg (r' := { r with spot := r.cur }) d1 f1
  refine ldP h1.rc rfl ?_
  have F1 : Fr B 28 w w1 := f1.mono (by omega) (by omega)
  refine peek_spec (k := 10) h1.tape (by omega) fun g w2 hg t2 f2 => ?_
  have h2 := h1.setCur t2 f2
  have F2 := F1.trans (f2.mono (q := B) (m := 28) (by omega) (by omega))
  refine ldP h2.rc rfl ?_
  have hg : g = min 10 (r.bits.length - r.cur) := hg
  have ha : num r.bits r.cur 10 < 2 ^ g := by rw [hg]; exact num_avail r.bits r.cur 10
  have e : findR 265 s.set (num r.bits r.cur 10) g = symAt 265 s.set r.bits s.cur := by rw [hg, q2]; rfl
  refine rc_Find (a := num r.bits r.cur 10) h2.ca H1 L1 c1 (by omega) (by omega) ha ?_
  rw [e]
  by_cases he : (symAt 265 s.set r.bits s.cur).2.2 = 0
  · have sb := sym_bound hcur he
    rw [if_neg (by simp only [bne_iff_ne, ne_eq]; omega)]
    rw [if_neg (by simpa using he)] at hst
    generalize symAt 265 s.set r.bits s.cur = p at *
    obtain ⟨p1, pn, pe⟩ := p
    dsimp only at *
    refine ldP h2.rc rfl (skip_spec h2.tape (by omega) (by show r.cur + pn ≤ r.bits.length; omega) fun w3 t3 f3 => ?_)
    have h3 := h2.setCur t3 f3
    have F3 := F2.trans (f3.mono (q := B) (m := 28) (by omega) (by omega))
    by_cases h256 : p1 = 256
    · rw [if_pos (by simp only [beq_iff_eq]; omega)]
      rw [if_pos h256] at hst
      refine stream_shut_spec (s := { s with cur := s.cur + pn }) (m0 := m0) h3 ⟨q1, by show r.cur + pn = s.cur + pn; omega, q3, q4, q5, q6, q7, ⟨a1, a2, a3, a4⟩, q9, q10, q11, q12⟩ gd.fin fun w5 r5 h5 R5 S5 f5 => ?_
      exact hK _ w5 r5 hst h5 R5 S5 (F3.trans f5)
    rw [if_neg (by simp only [beq_iff_eq]; omega)]
    rw [if_neg h256] at hst
    by_cases hlit : p1 < 256
    · rw [if_pos (by simp only [decide_eq_true_eq]; omega)]
      rw [if_pos hlit] at hst
      refine ldI h3.rc rfl ?_
      by_cases hfull : 256 ≤ s.out.length
      · rw [if_pos (by simp only [decide_eq_true_eq]; show (r.total : Int) ≥ 256; omega)]
        rw [if_pos hfull] at hst
        exact hE 10 w3 _ (by omega) (by rw [hst]) h3 q12 (fun h => by omega) ⟨rfl, rfl, rfl, rfl⟩ F3
      · rw [if_neg (by simp only [decide_eq_true_eq]; show ¬ (r.total : Int) ≥ 256; omega)]
        rw [if_neg hfull] at hst
        rw [U8_nat, Nat.mod_eq_of_lt hlit]
        refine stream_give_spec h3 (by show r.n < 256; omega) (by show r.wi < 16; omega) (by show r.fill ≤ 16; omega) (by show r.total < 256; omega) fun w4 h4 f4 => ?_
        refine hK _ w4 _ hst h4 ?_ ⟨rfl, rfl⟩ (F3.trans f4)
        exact give_rel (r := { r with spot := r.cur, cur := r.cur + pn }) (s := { s with cur := s.cur + pn }) ⟨q1, by show r.cur + pn = s.cur + pn; omega, q3, q4, q5, q6, q7, ⟨a1, a2, a3, a4⟩, q9, q10, q11, q12⟩
    · rw [if_neg (by simp only [decide_eq_true_eq]; omega)]
      rw [if_neg hlit] at hst
      rw [show W (W (W ((p1 : Int) - 256) - 1) + 3) = ((p1 - 254 : Nat) : Int) from by rw [W_id (x := (p1 : Int) - 256) (by omega) (by omega), W_id (x := (p1 : Int) - 256 - 1) (by omega) (by omega), W_id (by omega) (by omega)]; omega]
      refine st1 h3.rc (by simp [recD]) fun w4 d4 f4 _ => ?_
      have h4 := h3.reg (r' := { r with spot := r.cur, cur := r.cur + pn, run := p1 - 254 }) d4 f4
      refine st1 h4.rc (by simp [recD]) fun w5 d5 f5 _ => ?_
      have h5 := h4.reg (r' := { r with spot := r.cur, cur := r.cur + pn, run := p1 - 254, ph := 6 }) d5 f5
      exact hK _ w5 _ hst h5 ⟨rfl, by show r.cur + pn = s.cur + pn; omega, q3, fun h => by simp at h, fun h => by simp at h, fun _ _ => rfl, fun h => by simp at h, ⟨a1, a2, a3, a4⟩, q9, q10, fun _ _ => ⟨H1, H2⟩, q12⟩ ⟨rfl, rfl⟩
        ((F3.trans (f4.mono (by omega) (by omega))).trans (f5.mono (by omega) (by omega)))
  · rw [if_pos (by simp only [bne_iff_ne, ne_eq]; omega)]
    rw [if_pos he] at hst
    exact hE _ w2 _ he (by rw [hst]) h2 q12 (fun _ => q0) ⟨rfl, rfl, rfl, rfl⟩ F2

theorem stream_turnDist_spec (h : RW w B r) (q : Rel r s m0) (gd : GD r.bits s) (hp : s.ph = 6) (hE : TurnE w B r s m0 K) (hK : TurnK w B r s m0 K) : S.stream_Decoder_turnDist (B + 24) w K := by
  unfold S.stream_Decoder_turnDist
  have hst := step6 (bits := r.bits) hp
  unfold stDist at hst
  have q0 := q
  obtain ⟨q1, q2, q3, q4, q5, q6, q7, q8, q9, q10, q11, q12⟩ := q
  obtain ⟨hset, hle⟩ := gd.set (by omega) (by omega)
  obtain ⟨c1, c2, c3, L1, L2⟩ := sets_lens hset hle
  obtain ⟨H1, H2⟩ := q11 (by omega) (by omega)
  have hcur := gd.cur
  refine ldP h.rc rfl ?_
  refine peek_spec (k := 10) h.tape (by omega) fun g w2 hg t2 f2 => ?_
  have h2 := h.setCur t2 f2
  have F2 := f2.mono (q := B) (m := 28) (by omega) (by omega)
  refine ldP h2.rc rfl ?_
  have ha : num r.bits r.cur 10 < 2 ^ g := by rw [hg]; exact num_avail r.bits r.cur 10
  have e : findR 8 (hiL s.set) (num r.bits r.cur 10) g = symAt 8 (hiL s.set) r.bits s.cur := by rw [hg, q2]; rfl
  refine rc_Find (a := num r.bits r.cur 10) h2.cb H2 L2 c2 (by omega) (by omega) ha ?_
  rw [e]
  by_cases he : (symAt 8 (hiL s.set) r.bits s.cur).2.2 = 0
  · have sb := sym_bound hcur he
    rw [if_neg (by simp only [bne_iff_ne, ne_eq]; omega)]
    rw [if_neg (by simpa using he)] at hst
    generalize symAt 8 (hiL s.set) r.bits s.cur = p at *
    obtain ⟨p1, pn, pe⟩ := p
    dsimp only at *
    refine ldP h2.rc rfl (skip_spec h2.tape (by omega) (by show r.cur + pn ≤ r.bits.length; omega) fun w3 t3 f3 => ?_)
    have h3 := h2.setCur t3 f3
    have F3 := F2.trans (f3.mono (q := B) (m := 28) (by omega) (by omega))
    refine api_DistBase_spec (by omega) ?_
    refine st1 h3.rc (by simp [recD]) fun w4 d4 f4 _ => ?_
    have h4 := h3.reg (r' := { r with cur := r.cur + pn, base := dBase p1 }) d4 f4
    refine st1 h4.rc (by simp [recD]) fun w5 d5 f5 _ => ?_
    have h5 := h4.reg (r' := { r with cur := r.cur + pn, base := dBase p1, more := dMore p1 }) d5 f5
    refine st1 h5.rc (by simp [recD]) fun w6 d6 f6 _ => ?_
    have h6 := h5.reg (r' := { r with cur := r.cur + pn, base := dBase p1, more := dMore p1, ph := 7 }) d6 f6
    exact hK _ w6 _ hst h6 ⟨rfl, by show r.cur + pn = s.cur + pn; omega, q3, fun h => by simp at h, fun h => by simp at h, fun _ _ => q6 (by omega) (by omega), fun _ => ⟨rfl, rfl⟩, q8, q9, q10, fun _ _ => ⟨H1, H2⟩, q12⟩ ⟨rfl, rfl⟩
      (((F3.trans (f4.mono (by omega) (by omega))).trans (f5.mono (by omega) (by omega))).trans (f6.mono (by omega) (by omega)))
  · rw [if_pos (by simp only [bne_iff_ne, ne_eq]; omega)]
    rw [if_pos he] at hst
    exact hE _ w2 _ he (by rw [hst]) h2 q12 (fun _ => q0) ⟨rfl, rfl, rfl, rfl⟩ F2
end Go.Proofs.Qxb6500563aGreat
