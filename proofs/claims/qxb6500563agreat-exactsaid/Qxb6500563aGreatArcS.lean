/-
  The real container: the frame's reader.
-/
import Derived.Test.Qxb6500563aGreatArcR
namespace Go.Proofs.Qxb6500563aGreat
open Go.Den Go.Zip
set_option linter.unusedVariables false
set_option linter.unusedSimpArgs false
variable {w w' : World} {B : Nat} {ps : PS} {rs : RS} {L J : List Nat} {of_ tb gn : Nat → Nat}

theorem arch_word_spec {s : ByteArray} {i : Nat} {K : Int → World → Prop} (h : i + 1 < s.size) (hs : s.size ≤ 65536) (hK : ∀ w', w'.heap = w.heap → K (n16 (bt s) i : Int) w') : S.arch_word s (i : Int) w K := by
  unfold S.arch_word
  refine drew_ (byteS (by omega) ?_)
  rw [W_succ (by omega)]
  refine byteS h ?_
  rw [n16_val]
  exact hK _ rfl

/-- The trailer's error and its place. -/
def tailE (r : List Nat) : Nat × Nat :=
  if r.length < 4 ∨ r.getD (r.length - 1) 0 ≠ 90 then (14, 0)
  else if 4 < cntR r then (17, r.length - 4)
  else if dirR r + 2 * cntR r ≠ r.length - 4 then (15, r.length - 3)
  else (0, 0)
set_option maxRecDepth 10000 in
theorem arch_tail_spec {raw : ByteArray} {K : Int → Int → Int → Int → World → Prop} (hr : raw.size ≤ 1200)
    (hbad : (tailE (bt raw)).1 ≠ 0 → ∀ w', w'.heap = w.heap → K 0 0 ((tailE (bt raw)).1 : Int) ((tailE (bt raw)).2 : Int) w')
    (hK : (tailE (bt raw)).1 = 0 → 4 ≤ raw.size → cntR (bt raw) ≤ 4 → dirR (bt raw) + 2 * cntR (bt raw) = raw.size - 4 → ∀ w', w'.heap = w.heap → K (cntR (bt raw) : Int) (dirR (bt raw) : Int) 0 0 w') : S.arch_tail raw w K := by
  unfold S.arch_tail
  have hbl := bt_length raw
  unfold tailE at hbad hK
  rw [hbl] at hbad hK
  rw [W_id (by omega) (by omega)]
  refine let_ ?_
  by_cases h4 : raw.size < 4
  · rw [if_pos (by simp only [decide_eq_true_eq]; omega)]
    rw [if_pos (.inl h4)] at hbad
    exact hbad (by simp) w rfl
  rw [if_neg (by simp only [decide_eq_true_eq]; omega)]
  rw [show (raw.size : Int) - 4 = ((raw.size - 4 : Nat) : Int) from by omega]
  rw [show W (((raw.size - 4 : Nat) : Int) + 3) = ((raw.size - 1 : Nat) : Int) from by rw [W_id (by omega) (by omega)]; omega, show W (((raw.size - 4 : Nat) : Int) + 1) = ((raw.size - 3 : Nat) : Int) from by rw [W_id (by omega) (by omega)]; omega]
  refine byteS (by omega) ?_
  by_cases h90 : (bt raw).getD (raw.size - 1) 0 = 90
  case neg =>
    rw [if_pos (by simp only [bne_iff_ne, ne_eq]; omega)]
    rw [if_pos (.inr h90)] at hbad
    exact hbad (by simp) w rfl
  rw [if_neg (by simp only [bne_iff_ne, ne_eq]; omega)]
  rw [if_neg (by omega)] at hbad hK
  refine byteS (by omega) ?_
  have hcb := bt_getD_lt raw (raw.size - 4)
  have hcn : cntR (bt raw) = (bt raw).getD (raw.size - 4) 0 := by unfold cntR; rw [hbl]
  have hdn : dirR (bt raw) = n16 (bt raw) (raw.size - 3) := by unfold dirR; rw [hbl]
  rw [W_nat (by omega), ← hcn]
  rw [← hcn] at hcb
  have hdl := n16_lt raw (raw.size - 3)
  rw [← hdn] at hdl
  generalize hC : cntR (bt raw) = C at *
  generalize hD : dirR (bt raw) = D at *
  refine let_ ?_
  by_cases hc4 : 4 < C
  · rw [if_pos (by simp only [decide_eq_true_eq]; omega)]
    rw [if_pos hc4] at hbad
    exact hbad (by simp) w rfl
  rw [if_neg (by simp only [decide_eq_true_eq]; omega)]
  rw [if_neg hc4] at hbad hK
  refine arch_word_spec (by omega) (by omega) fun w1 e1 => ?_
  rw [← hdn]
  rw [show W ((D : Int) + W (2 * (C : Int))) = ((D + 2 * C : Nat) : Int) from by rw [W_id (x := 2 * (C : Int)) (by omega) (by omega), W_id (by omega) (by omega)]; omega]
  by_cases hdc : D + 2 * C = raw.size - 4
  case neg =>
    rw [if_pos (by simp only [bne_iff_ne, ne_eq]; omega)]
    rw [if_pos hdc] at hbad
    exact hbad (by simp) w1 e1
  rw [if_neg (by simp only [bne_iff_ne, ne_eq]; omega)]
  rw [if_neg (by simpa using hdc)] at hK
  exact hK rfl (by omega) (by omega) hdc w1 e1

/-- A struct of five numbers is handed back. -/
theorem ret5 {p q : Nat} {a b c d e : Int} {us : List Value} {K : Int → Int → Int → Int → Int → World → Prop} (hq : Blk w q [.int .i64 a, .int .i64 b, .int .i64 c, .int .i64 d, .int .i64 e]) (hp : Blk w p us) (hu : us.length = 5)
    (hK : ∀ w', Fr p 1 w w' → K a b c d e w') :
    LdI .i64 w ⟨q, 0, none⟩ fun off_5 =>
    LdI .i64 w ⟨q, 1, none⟩ fun head_6 =>
    LdI .i64 w ⟨q, 2, none⟩ fun to_7 =>
    LdI .i64 w ⟨q, 3, none⟩ fun size_8 =>
    LdI .i64 w ⟨q, 4, none⟩ fun sum_9 =>
    St1 w ⟨p, 0, none⟩ (.int .i64 off_5) fun w =>
    St1 w ⟨p, 1, none⟩ (.int .i64 head_6) fun w =>
    St1 w ⟨p, 2, none⟩ (.int .i64 to_7) fun w =>
    St1 w ⟨p, 3, none⟩ (.int .i64 size_8) fun w =>
    St1 w ⟨p, 4, none⟩ (.int .i64 sum_9) fun w =>
    LdI .i64 w ⟨p, 0, none⟩ fun off_10 =>
    LdI .i64 w ⟨p, 1, none⟩ fun head_11 =>
    LdI .i64 w ⟨p, 2, none⟩ fun to_12 =>
    LdI .i64 w ⟨p, 3, none⟩ fun size_13 =>
    LdI .i64 w ⟨p, 4, none⟩ fun sum_14 =>
    K off_10 head_11 to_12 size_13 sum_14 w := by
  refine ldI hq rfl (ldI hq rfl (ldI hq rfl (ldI hq rfl (ldI hq rfl ?_))))
  obtain ⟨u0, u1, u2, u3, u4, rfl⟩ : ∃ u0 u1 u2 u3 u4, us = [u0, u1, u2, u3, u4] := by
    match us, hu with
    | [u0, u1, u2, u3, u4], _ => exact ⟨u0, u1, u2, u3, u4, rfl⟩
  refine st1 hp (by simp) fun w1 b1 f1 _ => ?_
  refine st1 b1 (by simp) fun w2 b2 f2 _ => ?_
  refine st1 b2 (by simp) fun w3 b3 f3 _ => ?_
  refine st1 b3 (by simp) fun w4 b4 f4 _ => ?_
  refine st1 b4 (by simp) fun w5 b5 f5 _ => ?_
  exact ldI b5 rfl (ldI b5 rfl (ldI b5 rfl (ldI b5 rfl (ldI b5 rfl (hK w5 ((((f1.trans f2).trans f3).trans f4).trans f5))))))
/-- The same, with a number of the struct that is read beside. -/
theorem ret5h {p q : Nat} {a b c d e : Int} {us : List Value} {K : Int → Int → Int → Int → Int → Int → World → Prop} (hq : Blk w q [.int .i64 a, .int .i64 b, .int .i64 c, .int .i64 d, .int .i64 e]) (hp : Blk w p us) (hu : us.length = 5) (hpq : p ≠ q)
    (hK : ∀ w', Fr p 1 w w' → K a b c d e a w') :
    Drew w fun w =>
    LdI .i64 w ⟨q, 0, none⟩ fun off_5 =>
    LdI .i64 w ⟨q, 1, none⟩ fun head_6 =>
    LdI .i64 w ⟨q, 2, none⟩ fun to_7 =>
    LdI .i64 w ⟨q, 3, none⟩ fun size_8 =>
    LdI .i64 w ⟨q, 4, none⟩ fun sum_9 =>
    Hold w ⟨q, 0, none⟩ 1 fun R53 =>
    LdI .i64 w ⟨q, 0, none⟩ fun off_54 =>
    St1 w ⟨p, 0, none⟩ (.int .i64 off_5) fun w =>
    St1 w ⟨p, 1, none⟩ (.int .i64 head_6) fun w =>
    St1 w ⟨p, 2, none⟩ (.int .i64 to_7) fun w =>
    St1 w ⟨p, 3, none⟩ (.int .i64 size_8) fun w =>
    St1 w ⟨p, 4, none⟩ (.int .i64 sum_9) fun w =>
    After R53 w <|
    LdI .i64 w ⟨p, 0, none⟩ fun off_10 =>
    LdI .i64 w ⟨p, 1, none⟩ fun head_11 =>
    LdI .i64 w ⟨p, 2, none⟩ fun to_12 =>
    LdI .i64 w ⟨p, 3, none⟩ fun size_13 =>
    LdI .i64 w ⟨p, 4, none⟩ fun sum_14 =>
    K off_10 head_11 to_12 size_13 sum_14 off_54 w := by
  refine drew_ ?_
  refine ldI hq.drew rfl (ldI hq.drew rfl (ldI hq.drew rfl (ldI hq.drew rfl (ldI hq.drew rfl ?_))))
  unfold Hold
  refine ldI hq.drew rfl ?_
  obtain ⟨u0, u1, u2, u3, u4, rfl⟩ : ∃ u0 u1 u2 u3 u4, us = [u0, u1, u2, u3, u4] := by
    match us, hu with
    | [u0, u1, u2, u3, u4], _ => exact ⟨u0, u1, u2, u3, u4, rfl⟩
  refine st1 hp.drew (by simp) fun w1 b1 f1 _ => ?_
  refine st1 b1 (by simp) fun w2 b2 f2 _ => ?_
  refine st1 b2 (by simp) fun w3 b3 f3 _ => ?_
  refine st1 b3 (by simp) fun w4 b4 f4 _ => ?_
  refine st1 b4 (by simp) fun w5 b5 f5 _ => ?_
  have F : Fr p 1 w w5 := (((show Fr p 1 w w1 from f1).trans f2).trans f3).trans f4 |>.trans f5
  have q5 := hq.fr F (by omega)
  refine ⟨fun i hi => ?_, ?_⟩
  · have hi0 : i = 0 := by omega
    subst hi0
    rw [show (⟨q, 0, none⟩ : Addr).add 0 = ⟨q, 0, none⟩ from rfl, q5.cell]
    exact (Blk.cell (w := w.drew) hq 0).symm
  · exact ldI b5 rfl (ldI b5 rfl (ldI b5 rfl (ldI b5 rfl (ldI b5 rfl (hK w5 F)))))

set_option maxRecDepth 10000 in
theorem arch_spot_spec {raw : ByteArray} {D cell : Nat} {K : Int → Int → Int → Int → Int → Int → Int → World → Prop} (hr : raw.size ≤ 1200) (hD : D ≤ raw.size) (hc : cell + 1 < raw.size)
    (hbad : (spotE (bt raw) D cell).1 ≠ 0 → ∀ a b c d e w', Fr 0 0 w w' → K a b c d e ((spotE (bt raw) D cell).1 : Int) ((spotE (bt raw) D cell).2 : Int) w')
    (hK : (spotE (bt raw) D cell).1 = 0 → ∀ w', Fr 0 0 w w' → K ((spotOf (bt raw) cell).off : Int) ((spotOf (bt raw) cell).head : Int) ((spotOf (bt raw) cell).to_ : Int) ((spotOf (bt raw) cell).size : Int) ((spotOf (bt raw) cell).sum : Int) 0 0 w') :
    S.arch_spot raw (D : Int) (cell : Int) w K := by
  unfold S.arch_spot
  refine newB fun w1 p1 f1 s1 => ?_
  refine newB fun w2 q2 f2 s2 => ?_
  generalize hP : w.heap.size = P at *
  rw [s1] at q2 ⊢
  have p2 := p1.fr f2 (by omega)
  have G2 := f1.trans f2
  have hst : ∀ {u u' : World}, Fr (P + 1) 1 u u' → Fr P 2 u u' := fun f => f.mono (by omega) (by omega)
  refine st1 q2 (by simp) fun w3 q3 f3 _ => ?_
  refine st1 q3 (by simp) fun w4 q4 f4 _ => ?_
  refine st1 q4 (by simp) fun w5 q5 f5 _ => ?_
  refine st1 q5 (by simp) fun w6 q6 f6 _ => ?_
  refine st1 q6 (by simp) fun w7 q7 f7 _ => ?_
  have g7 : Fr (P + 1) 1 w2 w7 := (((f3.trans f4).trans f5).trans f6).trans f7
  refine arch_word_spec hc (by omega) fun w8 e8 => ?_
  have q8 := q7.heq e8
  refine st1 q8 (by simp) fun w9 q9 f9 _ => ?_
  have g9 : Fr (P + 1) 1 w2 w9 := (Fr.heq g7 e8).trans f9
  have hso : spotOf (bt raw) cell = ⟨n16 (bt raw) cell, n16 (bt raw) cell + 1 + (bt raw).getD (n16 (bt raw) cell) 0, n16 (bt raw) cell + 1 + (bt raw).getD (n16 (bt raw) cell) 0 + 6 + n16 (bt raw) (n16 (bt raw) cell + 1 + (bt raw).getD (n16 (bt raw) cell) 0 + 2), n16 (bt raw) (n16 (bt raw) cell + 1 + (bt raw).getD (n16 (bt raw) cell) 0), n16 (bt raw) (n16 (bt raw) cell + 1 + (bt raw).getD (n16 (bt raw) cell) 0 + 4)⟩ := rfl
  unfold spotE at hbad hK
  rw [hso] at hbad hK
  dsimp only at hbad hK
  generalize hoff : n16 (bt raw) cell = off at *
  have hol : off < 65536 := by rw [← hoff]; exact n16_lt raw _
  have q9 : Blk w9 (P + 1) [.int .i64 (off : Int), .int .i64 0, .int .i64 0, .int .i64 0, .int .i64 0] := q9
  have bad : ∀ {u u' : World}, Fr (P + 1) 1 w2 u → Fr P 1 u u' → Fr 0 0 w u' := fun f f' => ((G2.thenNew f (by omega)).thenNew f' (by omega))
  refine ldI q9 rfl ?_
  by_cases c1 : D ≤ off
  · rw [if_pos (by simp only [decide_eq_true_eq]; omega)]
    rw [if_pos c1] at hbad
    refine ret5 (K := fun a b c d e w => K a b c d e 15 (cell : Int) w) q9 (p2.fr g9 (by omega)) rfl fun w' f' => ?_
    exact hbad (by simp) _ _ _ _ _ w' (bad g9 f')
  rw [if_neg (by simp only [decide_eq_true_eq]; omega)]
  rw [if_neg c1] at hbad hK
  refine ldI q9 rfl (byteS (by omega) ?_)
  have hnl := bt_getD_lt raw off
  generalize hln : (bt raw).getD off 0 = ln at *
  rw [W_nat (by omega)]
  refine let_ (ldI q9 rfl ?_)
  rw [W_succ (by omega), W_add (by omega)]
  generalize hhd : off + 1 + ln = hd at *
  refine st1 q9 (by simp) fun w10 q10 f10 _ => ?_
  have g10 := g9.trans f10
  have q10 : Blk w10 (P + 1) [.int .i64 (off : Int), .int .i64 (hd : Int), .int .i64 0, .int .i64 0, .int .i64 0] := q10
  refine ldI q10 rfl ?_
  rw [show W ((hd : Int) + 6) = ((hd + 6 : Nat) : Int) from by rw [W_id (by omega) (by omega)]; omega]
  refine let_ ?_
  by_cases c2 : D < hd + 6
  · rw [if_pos (by simp only [decide_eq_true_eq]; omega)]
    rw [if_pos c2] at hbad
    refine ret5 (K := fun a b c d e w => K a b c d e 15 (cell : Int) w) q10 (p2.fr g10 (by omega)) rfl fun w' f' => ?_
    exact hbad (by simp) _ _ _ _ _ w' (bad g10 f')
  rw [if_neg (by simp only [decide_eq_true_eq]; omega)]
  rw [if_neg c2] at hbad hK
  have hsz := n16_lt raw hd
  have hlg := n16_lt raw (hd + 2)
  have hsm := n16_lt raw (hd + 4)
  refine ldI q10 rfl (arch_word_spec (by omega) (by omega) fun w11 e11 => ?_)
  have q11 := q10.heq e11
  refine st1 q11 (by simp) fun w12 q12 f12 _ => ?_
  have g12 : Fr (P + 1) 1 w2 w12 := (Fr.heq g10 e11).trans f12
  refine ldI q12 rfl ?_
  rw [show W ((hd : Int) + 2) = ((hd + 2 : Nat) : Int) from by rw [W_id (by omega) (by omega)]; omega]
  refine arch_word_spec (by omega) (by omega) fun w13 e13 => ?_
  have q13 := q12.heq e13
  refine ldI q13 rfl ?_
  rw [show W ((hd : Int) + 4) = ((hd + 4 : Nat) : Int) from by rw [W_id (by omega) (by omega)]; omega]
  refine arch_word_spec (by omega) (by omega) fun w14 e14 => ?_
  have q14 := q13.heq e14
  refine st1 q14 (by simp) fun w15 q15 f15 _ => ?_
  refine st1 q15 (by simp) fun w16 q16 f16 _ => ?_
  have g16 : Fr (P + 1) 1 w2 w16 := ((Fr.heq (Fr.heq g12 e13) e14).trans f15).trans f16
  rw [W_add (by omega)] at q16
  have q16 : Blk w16 (P + 1) [.int .i64 (off : Int), .int .i64 (hd : Int), .int .i64 ((hd + 6 + n16 (bt raw) (hd + 2) : Nat) : Int), .int .i64 (n16 (bt raw) hd : Int), .int .i64 (n16 (bt raw) (hd + 4) : Int)] := q16
  have p16 := p2.fr g16 (by omega)
  generalize hsize : n16 (bt raw) hd = size at *
  generalize hlong : n16 (bt raw) (hd + 2) = long at *
  generalize hsum : n16 (bt raw) (hd + 4) = sum at *
  refine ldI q16 rfl ?_
  by_cases c3 : D < hd + 6 + long
  · rw [if_pos (by simp only [decide_eq_true_eq]; omega)]
    rw [if_pos c3] at hbad
    refine ret5 (K := fun a b c d e w => K a b c d e 15 (cell : Int) w) q16 p16 rfl fun w' f' => ?_
    exact hbad (by simp) _ _ _ _ _ w' (bad g16 f')
  rw [if_neg (by simp only [decide_eq_true_eq]; omega)]
  rw [if_neg c3] at hbad hK
  refine join_ ?_
  by_cases c4 : ln = 0
  · rw [if_pos (by simp only [beq_iff_eq]; omega)]
    rw [if_pos (.inl c4)] at hbad
    refine ret5h (K := fun a b c d e f w => K a b c d e 16 f w) q16 p16 rfl (by omega) fun w' f' => ?_
    exact hbad (by simp) _ _ _ _ _ w' (bad g16 f')
  rw [if_neg (by simp only [beq_iff_eq]; omega)]
  by_cases c5 : 8 < ln
  · rw [if_pos (by simp only [decide_eq_true_eq]; omega)]
    rw [if_pos (.inr c5)] at hbad
    refine ret5h (K := fun a b c d e f w => K a b c d e 16 f w) q16 p16 rfl (by omega) fun w' f' => ?_
    exact hbad (by simp) _ _ _ _ _ w' (bad g16 f')
  rw [if_neg (by simp only [decide_eq_true_eq]; omega)]
  rw [if_neg (by omega)] at hbad hK
  refine ldI q16 rfl ?_
  by_cases c6 : 256 < size
  · rw [if_pos (by simp only [decide_eq_true_eq]; omega)]
    rw [if_pos c6] at hbad
    refine ret5h (K := fun a b c d e f w => K a b c d e 19 f w) q16 p16 rfl (by omega) fun w' f' => ?_
    exact hbad (by simp) _ _ _ _ _ w' (bad g16 f')
  rw [if_neg (by simp only [decide_eq_true_eq]; omega)]
  rw [if_neg c6] at hbad hK
  by_cases c7 : 512 < long
  · rw [if_pos (by simp only [decide_eq_true_eq]; omega)]
    rw [if_pos c7] at hbad
    refine ret5h (K := fun a b c d e f w => K a b c d e 1 f w) q16 p16 rfl (by omega) fun w' f' => ?_
    exact hbad (by simp) _ _ _ _ _ w' (bad g16 f')
  rw [if_neg (by simp only [decide_eq_true_eq]; omega)]
  rw [if_neg c7] at hK
  refine ret5 (K := fun a b c d e w => K a b c d e 0 0 w) q16 p16 rfl fun w' f' => ?_
  exact hK rfl w' (bad g16 f')

/-- The table holds the first n slots. -/
def TabIs (tb : Nat → Nat) (r : List Nat) (D n : Nat) : Prop := ∀ j, j < n → tb (j * 5) = (spotOf r (D + 2 * j)).off ∧ tb (j * 5 + 1) = (spotOf r (D + 2 * j)).head ∧ tb (j * 5 + 2) = (spotOf r (D + 2 * j)).to_ ∧ tb (j * 5 + 3) = (spotOf r (D + 2 * j)).size ∧ tb (j * 5 + 4) = (spotOf r (D + 2 * j)).sum
theorem stNk {n b i k v : Nat} {f : Nat → Nat} {K : World → Prop} (h : Blk w b (nats n f)) (hi : i * 5 + k < n) (hk : ∀ w', Blk w' b (nats n (fset f (i * 5 + k) v)) → Fr b 1 w w' → K w') : St1 w ⟨b, 0 + Int.toNat (i : Int) * 5 + k, none⟩ (.int .i64 (v : Int)) K := by
  rw [Nat.zero_add, Int.toNat_natCast]
  refine st1 h (by simpa using hi) fun w1 d1 f1 _ => ?_
  rw [nats_set] at d1
  exact hk w1 d1 f1
set_option maxRecDepth 10000 in
theorem arch_frame_spec {raw : ByteArray} {K : Int → Int → Int → World → Prop} (h : RA w B ps rs L J of_ tb gn) (hr : raw.size ≤ 1200)
    (hbad : (frameE (bt raw)).1 ≠ 0 → ∀ w' tb', RA w' B ps rs L J of_ tb' gn → Fr B 66 w w' → K 0 ((frameE (bt raw)).1 : Int) ((frameE (bt raw)).2 : Int) w')
    (hK : (frameE (bt raw)).1 = 0 → ∀ w' tb', RA w' B ps rs L J of_ tb' gn → TabIs tb' (bt raw) (dirR (bt raw)) (cntR (bt raw)) → Fr B 66 w w' → K (cntR (bt raw) : Int) 0 0 w') : S.arch_Archive_frame (B + 61) raw w K := by
  unfold S.arch_Archive_frame
  have hlt := h.lt
  have hbl := bt_length raw
  have hfe : frameE (bt raw) = if (tailE (bt raw)).1 ≠ 0 then tailE (bt raw) else frameTo (bt raw) (dirR (bt raw)) (cntR (bt raw)) := by
    unfold frameE tailE
    rw [hbl, if_neg (by omega)]
    split
    · rw [if_pos (by simp)]
    · split
      · rw [if_pos (by simp)]
      · split
        · rw [if_pos (by simp)]
        · rw [if_neg (by simp)]
  rw [hfe] at hbad hK
  refine arch_tail_spec hr (fun hne w1 e1 => ?_) fun hz h4 hc4 hdc w1 e1 => ?_
  · rw [if_pos (by simp only [bne_iff_ne, ne_eq]; omega)]
    rw [if_pos hne] at hbad
    exact hbad hne w1 tb (h.heq e1) (Fr.heq (Fr.refl _ _ _) e1)
  rw [if_neg (by simp)]
  rw [if_neg (by simpa using hz)] at hbad hK
  generalize hC : cntR (bt raw) = C at *
  generalize hD : dirR (bt raw) = D at *
  refine join_ ?_
  refine loopN (fun m st v => ∃ (i : Nat) (tb' : Nat → Nat), st = ((i : Int), ()) ∧ m + i = C ∧ (frameTo (bt raw) D i).1 = 0 ∧ RA v B ps rs L J of_ tb' gn ∧ TabIs tb' (bt raw) D i ∧ Fr B 66 w v) C
    ⟨0, tb, rfl, rfl, rfl, h.heq e1, fun j hj => by omega, Fr.heq (Fr.refl _ _ _) e1⟩ ?_
  rintro m _ v ⟨i, tb', rfl, hm, hf, hv, ht, fv⟩ Q hQ
  dsimp only
  by_cases hi : i < C
  · rw [if_pos (by simp only [decide_eq_true_eq]; omega)]
    rw [show W ((D : Int) + W (2 * (i : Int))) = ((D + 2 * i : Nat) : Int) from by rw [W_id (x := 2 * (i : Int)) (by omega) (by omega), W_id (by omega) (by omega)]; omega]
    have hfs : frameTo (bt raw) D (i + 1) = spotE (bt raw) D (D + 2 * i) := by simp only [frameTo]; rw [if_neg (by simpa using hf)]
    have hvl := hv.lt
    -- the struct is taken over
    have take : ∀ {u : World} {a b c d e : Int} {K' : Nat → World → Prop}, (∀ u', Blk u' u.heap.size [.int .i64 a, .int .i64 b, .int .i64 c, .int .i64 d, .int .i64 e] → Fr 0 0 u u' → K' u.heap.size u') →
        (New u (.cells #[.int .i64 0, .int .i64 0, .int .i64 0, .int .i64 0, .int .i64 0] 111) fun p15 w =>
        St1 w ⟨p15, 0, none⟩ (.int .i64 a) fun w =>
        St1 w ⟨p15, 1, none⟩ (.int .i64 b) fun w =>
        St1 w ⟨p15, 2, none⟩ (.int .i64 c) fun w =>
        St1 w ⟨p15, 3, none⟩ (.int .i64 d) fun w =>
        St1 w ⟨p15, 4, none⟩ (.int .i64 e) fun w => K' p15 w) := by
      intro u a b c d e K' hk
      refine newB fun u1 b1 f1 s1 => ?_
      refine st1 b1 (by simp) fun u2 b2 f2 _ => ?_
      refine st1 b2 (by simp) fun u3 b3 f3 _ => ?_
      refine st1 b3 (by simp) fun u4 b4 f4 _ => ?_
      refine st1 b4 (by simp) fun u5 b5 f5 _ => ?_
      refine st1 b5 (by simp) fun u6 b6 f6 _ => ?_
      exact hk u6 b6 (f1.thenNew ((((f2.trans f3).trans f4).trans f5).trans f6) (by omega))
    refine arch_spot_spec hr (by omega) (by omega) (fun hne a b c d e v1 f1 => ?_) fun hz1 v1 f1 => ?_
    · refine take fun v2 b2 f2 => ?_
      rw [if_pos (by simp only [bne_iff_ne, ne_eq]; omega)]
      have hst := frame_stop (r := bt raw) (dir := D) (k := i + 1) (by rw [hfs]; exact hne) (C - (i + 1))
      rw [show i + 1 + (C - (i + 1)) = C from by omega, hfs] at hst
      rw [hst] at hbad
      exact hbad hne v2 tb' ((hv.fr f1 (by omega)).fr f2 (by omega)) ((fv.then0 f1).then0 f2)
    · refine take fun v2 b2 f2 => ?_
      rw [if_neg (by simp)]
      generalize hsp : spotOf (bt raw) (D + 2 * i) = sp at *
      have hv2 := (hv.fr f1 (by omega)).fr f2 (by omega)
      have hv1l := f1.1
      refine drew_ (ldS hv2.drew.rc rfl (ldI b2.drew rfl (ldI b2.drew rfl (ldI b2.drew rfl (ldI b2.drew rfl (ldI b2.drew rfl ?_))))))
      refine ix (b := B + 64) (o := 0) rfl (by omega) (by show (i : Int) < 4; omega) ?_
      refine stNk (k := 0) hv2.drew.tab (by omega) fun v3 d3 f3 => ?_
      refine stNk (k := 1) d3 (by omega) fun v4 d4 f4 => ?_
      refine stNk (k := 2) d4 (by omega) fun v5 d5 f5 => ?_
      refine stNk (k := 3) d5 (by omega) fun v6 d6 f6 => ?_
      refine stNk (k := 4) d6 (by omega) fun v7 d7 f7 => ?_
      have F : Fr (B + 64) 1 v2 v7 := (((((show Fr (B + 64) 1 v2 v3 from f3)).trans f4).trans f5).trans f6).trans f7
      rw [W_succ (by omega)]
      refine let_ (hQ (m - 1) _ _ (by omega) ⟨i + 1, _, rfl, by omega, by rw [hfs]; exact hz1, hv2.setTab d7 F, fun j hj => ?_, ((fv.then0 f1).then0 f2).trans (F.mono (by omega) (by omega))⟩)
      by_cases e : j = i
      · subst e
        rw [hsp]
        unfold fset
        refine ⟨?_, ?_, ?_, ?_, ?_⟩
        · rw [if_neg (by omega), if_neg (by omega), if_neg (by omega), if_neg (by omega), if_pos (by omega)]
        · rw [if_neg (by omega), if_neg (by omega), if_neg (by omega), if_pos (by omega)]
        · rw [if_neg (by omega), if_neg (by omega), if_pos (by omega)]
        · rw [if_neg (by omega), if_pos (by omega)]
        · rw [if_pos (by omega)]
      · obtain ⟨t0, t1, t2, t3, t4⟩ := ht j (by omega)
        unfold fset
        refine ⟨?_, ?_, ?_, ?_, ?_⟩ <;> rw [if_neg (by omega), if_neg (by omega), if_neg (by omega), if_neg (by omega), if_neg (by omega)] <;> assumption
  · rw [if_neg (by simp only [decide_eq_true_eq]; omega)]
    have hie : i = C := by omega
    subst hie
    exact hK hf v tb' hv ht fv
end Go.Proofs.Qxb6500563aGreat
