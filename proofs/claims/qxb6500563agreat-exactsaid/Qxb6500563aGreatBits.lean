/-
  The real tape of bits: its contracts.
-/
import Derived.Test.Qxb6500563aGreatBitL
import Derived.Test.Qxb6500563aGreatS5
namespace Go.Proofs.Qxb6500563aGreat
open Go.Den Go.Zip
set_option linter.unusedVariables false

/-- The real tape at B (its bytes), B+1 (its record): its bits, its cursor. -/
structure RTape (w : World) (B : Nat) (bits : List Bool) (at_ : Nat) : Prop where
  buf : Blk w B (byts (bufOf bits 516))
  rcd : Blk w (B + 1) [.slice (some ⟨B, 0, none⟩) 516 516, .int .i64 bits.length, .int .i64 at_]
  len : bits.length ≤ 4096
  cur : at_ ≤ bits.length

variable {w w' : World} {B : Nat} {bits : List Bool} {at_ : Nat}
theorem RTape.fr {p n : Nat} (h : RTape w B bits at_) (f : Fr p n w w') (hb : B + 2 ≤ p ∨ p + n ≤ B) : RTape w' B bits at_ :=
  ⟨h.buf.fr f (by omega), h.rcd.fr f (by omega), h.len, h.cur⟩
theorem RTape.drew (h : RTape w B bits at_) : RTape w.drew B bits at_ := ⟨h.buf, h.rcd, h.len, h.cur⟩

theorem bits_New_spec {K : Nat → World → Prop} (hK : ∀ w', RTape w' w.heap.size [] 0 → Fr 0 0 w w' → w'.heap.size = w.heap.size + 2 → K (w.heap.size + 1) w') : S.bits_New w K := by
  unfold S.bits_New
  refine mkS (by omega) (by omega) (by omega) (by omega) fun w1 b1 f1 s1 => ?_
  refine newB fun w2 b2 f2 s2 => ?_
  rw [s1] at b2 ⊢
  refine hK w2 ⟨?_, b2, by simp, by simp⟩ (f1.trans f2) (by omega)
  have := b1.fr f2 (by omega)
  rw [reps_byts] at this
  rw [bufOf_nil]
  exact this

theorem wipe_spec {K : World → Prop} (h : RTape w B bits at_) (hK : ∀ w', Blk w' B (byts (List.replicate 516 0)) → Blk w' (B + 1) [.slice (some ⟨B, 0, none⟩) 516 516, .int .i64 bits.length, .int .i64 at_] → Fr B 2 w w' → K w') : S.bits_Tape_wipe (B + 1) w K := by
  obtain ⟨hb, hr, hn, ha⟩ := h
  unfold S.bits_Tape_wipe
  refine ldI hr rfl ?_
  have e : Shr .i64 (W ((bits.length : Int) + 7)) 3 = (((bits.length + 7) / 8 : Nat) : Int) := by
    rw [W_id (by omega) (by omega)]
    exact_mod_cast Shr_nat (bits.length + 7) 3 (by omega)
  rw [e]
  refine let_ ?_
  refine loopP (fun s w1 => ∃ j : Nat, s = ((j : Int), ()) ∧ j ≤ (bits.length + 7) / 8 ∧ Blk w1 B (byts (List.replicate j 0 ++ (bufOf bits 516).drop j)) ∧
    Blk w1 (B + 1) [.slice (some ⟨B, 0, none⟩) 516 516, .int .i64 bits.length, .int .i64 at_] ∧ Fr B 2 w w1) (fun s _ => ((bits.length + 7) / 8 - s.1.toNat)) ⟨0, rfl, by omega, by simpa using hb, hr, Fr.refl _ _ _⟩ ?_
  rintro _ w1 ⟨j, rfl, hj, b1, r1, f1⟩
  dsimp only
  by_cases hlt : j < (bits.length + 7) / 8
  · rw [if_pos (by simp; omega)]
    refine ldS r1 rfl ?_
    refine ix rfl (by omega) (by show (j : Int) < 516; omega) ?_
    refine stU (m := 0) b1 (by simp; omega) rfl fun w2 b2 f2 s2 => ?_
    rw [show W ((j : Int) + 1) = ((j + 1 : Nat) : Int) from by rw [W_id (by omega) (by omega)]; omega]
    refine let_ ?_
    refine ⟨⟨j + 1, rfl, by omega, ?_, r1.fr f2 (by omega), f1.trans (f2.mono (by omega) (by omega))⟩, by simp; omega⟩
    rw [Int.toNat_natCast, wipe_set _ _ (by simp; omega)] at b2
    exact b2
  · rw [if_neg (by simp; omega)]
    have hj2 : j = (bits.length + 7) / 8 := by omega
    refine hK w1 ?_ r1 f1
    rw [wipe_buf bits j 516 (by omega) (by omega)] at b1
    exact b1

theorem reset_spec {K : World → Prop} (h : RTape w B bits at_) (hK : ∀ w', RTape w' B [] 0 → Fr B 2 w w' → K w') : S.bits_Tape_Reset (B + 1) w K := by
  unfold S.bits_Tape_Reset
  refine wipe_spec h fun w1 b1 r1 f1 => ?_
  refine st1 r1 (by simp) fun w2 r2 f2 s2 => ?_
  refine st1 r2 (by simp) fun w3 r3 f3 s3 => ?_
  refine hK w3 ⟨?_, r3, by simp, by simp⟩ ((f1.trans (f2.mono (by omega) (by omega))).trans (f3.mono (by omega) (by omega)))
  rw [bufOf_nil]
  exact (b1.fr f2 (by omega)).fr f3 (by omega)

theorem inRange_spec {k : Nat} {K : Bool → World → Prop} (hk : k ≤ 16) (hK : K true w) : S.bits_inRange (k : Int) w K := by
  unfold S.bits_inRange
  rw [if_pos (by simp)]
  have : decide ((k : Int) ≤ 16) = true := by simp; omega
  rw [this]
  exact hK

theorem put_spec {v k : Nat} {K : Int → World → Prop} (h : RTape w B bits at_) (hv : v < 2 ^ k) (hk : k ≤ 16) (hl : bits.length + k ≤ 4096)
    (hK : ∀ w', RTape w' B (bits ++ bitsOf v k) at_ → Fr B 2 w w' → K 0 w') : S.bits_Tape_Put (B + 1) (v : Int) (k : Int) w K := by
  obtain ⟨hb, hr, hn, ha⟩ := h
  have hv16 : v < 65536 := Nat.lt_of_lt_of_le hv (by have := Nat.pow_le_pow_right (n := 2) (by omega) hk; simpa using this)
  unfold S.bits_Tape_Put
  refine inRange_spec hk ?_
  rw [if_neg (by simp), if_neg (by simp), U64_id (by omega) (by omega), Shr_nat _ _ (by omega)]
  refine ⟨by omega, ?_⟩
  rw [if_neg (by simp [Nat.div_eq_of_lt hv])]
  refine ldI hr rfl ?_
  rw [W_id (by omega) (by omega), if_neg (by simp; omega)]
  refine ldI hr rfl ?_
  rw [show And .i64 (bits.length : Int) 7 = ((bits.length % 8 : Nat) : Int) from by rw [← and_7]; exact_mod_cast And_nat (a := bits.length) (b := 7) (by omega) (by omega)]
  rw [U64_id (by omega) (by omega)]
  refine ⟨by omega, ?_⟩
  have hp : 2 ^ (bits.length % 8) ≤ 128 := by have := Nat.pow_le_pow_right (n := 2) (by omega) (show bits.length % 8 ≤ 7 by omega); simpa using this
  have hw : v * 2 ^ (bits.length % 8) < 8388608 := by
    have := Nat.mul_le_mul (show v ≤ 65535 by omega) hp
    omega
  rw [Shl_nat _ _ (by omega) (by omega)]
  refine let_ ?_
  refine ldI hr rfl ?_
  rw [show Shr .i64 (bits.length : Int) 3 = ((bits.length / 8 : Nat) : Int) from by exact_mod_cast Shr_nat bits.length 3 (by omega)]
  generalize hwv : v * 2 ^ (bits.length % 8) = wv at *
  refine let_ ?_
  -- the first byte
  refine drew_ ?_
  refine ldS hr.drew rfl (ldS hr.drew rfl ?_)
  refine ix rfl (by omega) (by show ((bits.length / 8 : Nat) : Int) < 516; omega) ?_
  refine ldU hb.drew (bufOf_get (by simp; omega)) ?_
  refine ix rfl (by omega) (by show ((bits.length / 8 : Nat) : Int) < 516; omega) ?_
  rw [U8_nat, Or_u8 (byteAt_lt _ _) (by omega)]
  refine stU hb.drew (by simp; omega) rfl fun w1 b1 f1 s1 => ?_
  have r1 := hr.drew.fr f1 (by omega)
  -- the second
  refine drew_ ?_
  refine ldS r1.drew rfl (ldS r1.drew rfl ?_)
  rw [W_id (by omega) (by omega), show ((bits.length / 8 : Nat) : Int) + 1 = ((bits.length / 8 + 1 : Nat) : Int) from by omega]
  refine ix rfl (by omega) (by show ((bits.length / 8 + 1 : Nat) : Int) < 516; omega) ?_
  refine ldU b1.drew (by rw [Int.toNat_natCast, Int.toNat_natCast, List.getElem?_set_ne (by omega)]; exact bufOf_get (by omega)) ?_
  refine ix rfl (by omega) (by show ((bits.length / 8 + 1 : Nat) : Int) < 516; omega) ?_
  rw [show Shr .i64 (wv : Int) 8 = ((wv / 2 ^ 8 : Nat) : Int) from by exact_mod_cast Shr_nat wv 8 (by omega), U8_nat, Or_u8 (byteAt_lt _ _) (by omega)]
  refine stU b1.drew (by simp; omega) rfl fun w2 b2 f2 s2 => ?_
  have r2 := r1.drew.fr f2 (by omega)
  -- the third
  refine drew_ ?_
  refine ldS r2.drew rfl (ldS r2.drew rfl ?_)
  rw [W_id (by omega) (by omega), show ((bits.length / 8 : Nat) : Int) + 2 = ((bits.length / 8 + 2 : Nat) : Int) from by omega]
  refine ix rfl (by omega) (by show ((bits.length / 8 + 2 : Nat) : Int) < 516; omega) ?_
  refine ldU b2.drew (by rw [Int.toNat_natCast, Int.toNat_natCast, Int.toNat_natCast, List.getElem?_set_ne (by omega), List.getElem?_set_ne (by omega)]; exact bufOf_get (by omega)) ?_
  refine ix rfl (by omega) (by show ((bits.length / 8 + 2 : Nat) : Int) < 516; omega) ?_
  rw [show Shr .i64 (wv : Int) 16 = ((wv / 2 ^ 16 : Nat) : Int) from by exact_mod_cast Shr_nat wv 16 (by omega), U8_nat, Or_u8 (byteAt_lt _ _) (by omega)]
  refine stU b2.drew (by simp; omega) rfl fun w3 b3 f3 s3 => ?_
  have r3 := r2.drew.fr f3 (by omega)
  refine ldI r3 rfl ?_
  refine st1 r3 (by simp) fun w4 r4 f4 s4 => ?_
  have hlen : W ((bits.length : Int) + (k : Int)) = ((bits ++ bitsOf v k).length : Int) := by rw [W_id (by omega) (by omega)]; simp
  rw [hlen] at r4
  refine hK w4 ⟨?_, r4, by simpa using hl, by simp; omega⟩ ?_
  · have := b3.fr f4 (by omega)
    simp only [Int.toNat_natCast] at this
    rw [← hwv, put_buf hv hk] at this
    exact this
  · have g1 : Fr B 2 w w1 := (show Fr B 1 w w1 from f1).mono (by omega) (by omega)
    have g2 : Fr B 2 w1 w2 := (show Fr B 1 w1 w2 from f2).mono (by omega) (by omega)
    have g3 : Fr B 2 w2 w3 := (show Fr B 1 w2 w3 from f3).mono (by omega) (by omega)
    exact ((g1.trans g2).trans g3).trans (f4.mono (by omega) (by omega))

theorem pad_spec {K : World → Prop} (h : RTape w B bits at_) (hK : ∀ w', RTape w' B (bits ++ List.replicate ((bits.length + 7) / 8 * 8 - bits.length) false) at_ → Fr B 2 w w' → K w') : S.bits_Tape_Pad (B + 1) w K := by
  obtain ⟨hb, hr, hn, ha⟩ := h
  unfold S.bits_Tape_Pad
  refine ldI hr rfl ?_
  rw [W_id (by omega) (by omega), show (bits.length : Int) + 7 = ((bits.length + 7 : Nat) : Int) from by omega, AndNot_7 (by omega)]
  refine st1 hr (by simp) fun w1 r1 f1 s1 => ?_
  have hl : (bits ++ List.replicate ((bits.length + 7) / 8 * 8 - bits.length) false).length = (bits.length + 7) / 8 * 8 := by simp; omega
  refine hK w1 ⟨?_, ?_, by omega, by omega⟩ (f1.mono (by omega) (by omega))
  · have : bufOf (bits ++ List.replicate ((bits.length + 7) / 8 * 8 - bits.length) false) 516 = bufOf bits 516 := by
      unfold bufOf
      refine List.map_congr_left fun j _ => ?_
      apply Nat.eq_of_testBit_eq
      intro t
      rw [byteAt_testBit, byteAt_testBit]
      congr 1
      rcases Nat.lt_or_ge (8 * j + t) bits.length with h | h
      · rw [List.getElem?_append_left h]
      · rw [List.getElem?_append_right h, List.getElem?_eq_none h, List.getElem?_replicate]
        split <;> rfl
    rw [this]
    exact hb.fr f1 (by omega)
  · rw [hl]; exact r1

/-- The text of a row of bits. -/
def textOf (bits : List Bool) : ByteArray := ⟨((bufOf bits ((bits.length + 7) / 8)).map UInt8.ofNat).toArray⟩
theorem text_spec {K : ByteArray → World → Prop} (h : RTape w B bits at_) (hK : ∀ w', RTape w' B bits at_ → Fr B 2 w w' → K (textOf bits) w') : S.bits_Tape_Text (B + 1) w K := by
  obtain ⟨hb, hr, hn, ha⟩ := h
  unfold S.bits_Tape_Text
  refine drew_ ?_
  refine ldS hr.drew rfl (ldI hr.drew rfl ?_)
  rw [W_id (by omega) (by omega), show Shr .i64 ((bits.length : Int) + 7) 3 = (((bits.length + 7) / 8 : Nat) : Int) from by exact_mod_cast Shr_nat (bits.length + 7) 3 (by omega)]
  refine ⟨by omega, by omega, by show (((bits.length + 7) / 8 : Nat) : Int) ≤ 516; omega, by omega, ?_⟩
  refine ⟨(bufOf bits ((bits.length + 7) / 8)).map UInt8.ofNat, ⟨by simp; omega, .inr ⟨B, 0, by simp [Addr.add], fun i hi => ?_⟩⟩, hK _ ⟨hb, hr, hn, ha⟩ (Fr.refl _ _ _)⟩
  simp only [Int.toNat_natCast, Int.toNat_zero, Nat.sub_zero] at hi
  have h1 : (bufOf bits 516)[0 + i]? = some (byteAt bits i) := by rw [Nat.zero_add]; exact bufOf_get (by omega)
  rw [hb.drew.cell, byts_get h1]
  have h2 : (bufOf bits ((bits.length + 7) / 8))[i]? = some (byteAt bits i) := bufOf_get hi
  have h3 : (UInt8.ofNat (byteAt bits i)).toNat = byteAt bits i := by
    have := byteAt_lt bits i
    simp; omega
  simp [h2]
  have := byteAt_lt bits i
  omega

theorem pos_spec {K : Int → World → Prop} (h : RTape w B bits at_) (hK : K at_ w) : S.bits_Tape_Pos (B + 1) w K := by
  unfold S.bits_Tape_Pos
  exact ldI h.rcd rfl hK
theorem len_spec {K : Int → World → Prop} (h : RTape w B bits at_) (hK : K bits.length w) : S.bits_Tape_Len (B + 1) w K := by
  unfold S.bits_Tape_Len
  exact ldI h.rcd rfl hK

/-- The next bits as a number, out of three bytes. -/
theorem peek_num (bits : List Bool) (at_ got : Nat) (hg : got ≤ 16) :
    ((byteAt bits (at_ / 8) ||| byteAt bits (at_ / 8 + 1) * 2 ^ 8 ||| byteAt bits (at_ / 8 + 2) * 2 ^ 16) / 2 ^ (at_ % 8)) % 2 ^ got = ofBits ((bits.drop at_).take got) := by
  apply Nat.eq_of_testBit_eq
  intro t
  rw [Nat.testBit_mod_two_pow, Nat.testBit_div_two_pow, ofBits_testBit, List.getElem?_take]
  rcases Nat.lt_or_ge t got with h | h
  · simp only [h, decide_true, Bool.true_and, if_true, List.getElem?_drop, Nat.testBit_or]
    rw [Nat.mul_comm _ (2 ^ 8), Nat.mul_comm _ (2 ^ 16), Nat.testBit_two_pow_mul, Nat.testBit_two_pow_mul, byteAt_testBit, byteAt_testBit, byteAt_testBit]
    rcases Nat.lt_or_ge (t + at_ % 8) 8 with h1 | h1
    · have a1 : ¬ (8 ≤ t + at_ % 8) := by omega
      have a2 : ¬ (16 ≤ t + at_ % 8) := by omega
      have e : 8 * (at_ / 8) + (t + at_ % 8) = at_ + t := by omega
      simp [h1, a1, a2, e]
    · have a0 : ¬ (t + at_ % 8 < 8) := by omega
      rcases Nat.lt_or_ge (t + at_ % 8) 16 with h2 | h2
      · have a2 : ¬ (16 ≤ t + at_ % 8) := by omega
        have e : 8 * (at_ / 8 + 1) + (t + at_ % 8 - 8) = at_ + t := by omega
        have b1 : t + at_ % 8 - 8 < 8 := by omega
        simp [a0, h1, a2, b1, e]
      · have e : 8 * (at_ / 8 + 2) + (t + at_ % 8 - 16) = at_ + t := by omega
        have b1 : ¬ (t + at_ % 8 - 8 < 8) := by omega
        have b2 : t + at_ % 8 - 16 < 8 := by omega
        simp [a0, h2, b1, b2, e]
  · simp [Nat.not_lt.2 h]

theorem peek_spec {k : Nat} {K : Int → Int → World → Prop} (h : RTape w B bits at_) (hk : k ≤ 16)
    (hK : ∀ (g : Nat) w', g = min k (bits.length - at_) → RTape w' B bits at_ → Fr B 2 w w' → K (ofBits ((bits.drop at_).take k)) (g : Int) w') : S.bits_Tape_Peek (B + 1) (k : Int) w K := by
  obtain ⟨hb, hr, hn, ha⟩ := h
  unfold S.bits_Tape_Peek
  refine inRange_spec hk ?_
  rw [if_neg (by simp)]
  refine drew_ ?_
  refine ldI hr.drew rfl (ldI hr.drew rfl ?_)
  refine let_ ?_
  have hj : ∀ got : Nat, got = min k (bits.length - at_) → ∀ w1 : World, w1 = w.drew → (LdI .i64 w1 ⟨B + 1, 2, none⟩ fun at_6 =>
      Let (Shr .i64 at_6 3) fun i_7 =>
      Drew w1 fun w =>
      LdS w ⟨B + 1, 0, none⟩ fun buf_8 =>
      Ix buf_8.a buf_8.l i_7 fun b9 o10 =>
      LdI .u8 w ⟨b9, o10 + Int.toNat i_7 * 1, none⟩ fun x_11 =>
      LdS w ⟨B + 1, 0, none⟩ fun buf_12 =>
      Ix buf_12.a buf_12.l (W (i_7 + 1)) fun b13 o14 =>
      LdI .u8 w ⟨b13, o14 + Int.toNat (W (i_7 + 1)) * 1, none⟩ fun x_15 =>
      LdS w ⟨B + 1, 0, none⟩ fun buf_16 =>
      Ix buf_16.a buf_16.l (W (i_7 + 2)) fun b17 o18 =>
      LdI .u8 w ⟨b17, o18 + Int.toNat (W (i_7 + 2)) * 1, none⟩ fun x_19 =>
      Let (Or .i64 (Or .i64 (W x_11) (Shl .i64 (W x_15) 8)) (Shl .i64 (W x_19) 16)) fun w_20 =>
      LdI .i64 w ⟨B + 1, 2, none⟩ fun at_21 =>
      Pos (U64 (And .i64 at_21 7)) <|
      Let (Shr .i64 w_20 (U64 (And .i64 at_21 7))) fun w_22 =>
      Pos (U64 (got : Int)) <|
      K (And .i64 w_22 (W ((Shl .i64 1 (U64 (got : Int))) - 1))) (got : Int) w) := by
    rintro got hgot _ rfl
    refine ldI hr.drew rfl ?_
    rw [show Shr .i64 (at_ : Int) 3 = ((at_ / 8 : Nat) : Int) from by exact_mod_cast Shr_nat at_ 3 (by omega)]
    refine let_ (drew_ ?_)
    refine ldS hr.drew.drew rfl ?_
    refine ix rfl (by omega) (by show ((at_ / 8 : Nat) : Int) < 516; omega) ?_
    refine ldU hb.drew.drew (bufOf_get (by rw [Int.toNat_natCast]; omega)) ?_
    refine ldS hr.drew.drew rfl ?_
    rw [W_id (by omega) (by omega), show ((at_ / 8 : Nat) : Int) + 1 = ((at_ / 8 + 1 : Nat) : Int) from by omega]
    refine ix rfl (by omega) (by show ((at_ / 8 + 1 : Nat) : Int) < 516; omega) ?_
    refine ldU hb.drew.drew (bufOf_get (by rw [Int.toNat_natCast]; omega)) ?_
    refine ldS hr.drew.drew rfl ?_
    rw [W_id (by omega) (by omega), show ((at_ / 8 : Nat) : Int) + 2 = ((at_ / 8 + 2 : Nat) : Int) from by omega]
    refine ix rfl (by omega) (by show ((at_ / 8 + 2 : Nat) : Int) < 516; omega) ?_
    refine ldU hb.drew.drew (bufOf_get (by rw [Int.toNat_natCast]; omega)) ?_
    simp only [Int.toNat_natCast]
    have l0 := byteAt_lt bits (at_ / 8)
    have l1 := byteAt_lt bits (at_ / 8 + 1)
    have l2 := byteAt_lt bits (at_ / 8 + 2)
    have s1 : byteAt bits (at_ / 8 + 1) * 2 ^ 8 < 16777216 := by omega
    have s2 : byteAt bits (at_ / 8 + 2) * 2 ^ 16 < 16777216 := Nat.lt_of_lt_of_eq (Nat.mul_lt_mul_of_pos_right l2 (by decide)) (by decide)
    have o1 : byteAt bits (at_ / 8) ||| byteAt bits (at_ / 8 + 1) * 2 ^ 8 < 16777216 := Nat.or_lt_two_pow (n := 24) (Nat.lt_trans l0 (by decide)) s1
    have o2 : byteAt bits (at_ / 8) ||| byteAt bits (at_ / 8 + 1) * 2 ^ 8 ||| byteAt bits (at_ / 8 + 2) * 2 ^ 16 < 16777216 := Nat.or_lt_two_pow (n := 24) o1 s2
    have big : ∀ {m : Nat}, m < 16777216 → m < 9223372036854775808 := fun {m} h => (by clear o1 o2 s1 s2; omega)
    rw [W_nat (big (Nat.lt_trans l0 (by decide))), W_nat (big (Nat.lt_trans l1 (by decide))), W_nat (big (Nat.lt_trans l2 (by decide)))]
    rw [show Shl .i64 (byteAt bits (at_ / 8 + 1) : Int) 8 = ((byteAt bits (at_ / 8 + 1) * 2 ^ 8 : Nat) : Int) from by exact_mod_cast Shl_nat (byteAt bits (at_ / 8 + 1)) 8 (by omega) (big s1)]
    rw [show Shl .i64 (byteAt bits (at_ / 8 + 2) : Int) 16 = ((byteAt bits (at_ / 8 + 2) * 2 ^ 16 : Nat) : Int) from by exact_mod_cast Shl_nat (byteAt bits (at_ / 8 + 2)) 16 (by omega) (big s2)]
    rw [Or_nat (big (Nat.lt_trans l0 (by decide))) (big s1), Or_nat (big o1) (big s2)]
    refine let_ ?_
    refine ldI hr.drew.drew rfl ?_
    rw [show And .i64 (at_ : Int) 7 = ((at_ % 8 : Nat) : Int) from by rw [← and_7]; exact_mod_cast And_nat (a := at_) (b := 7) (by omega) (by omega)]
    rw [U64_id (by omega) (by omega)]
    refine ⟨by omega, ?_⟩
    rw [Shr_nat _ _ (by omega)]
    refine let_ ?_
    rw [U64_id (by omega) (by omega)]
    refine ⟨by omega, ?_⟩
    have hp : 2 ^ got ≤ 65536 := by have := Nat.pow_le_pow_right (n := 2) (by omega) (show got ≤ 16 by omega); simpa using this
    have hp0 : 0 < 2 ^ got := Nat.two_pow_pos _
    rw [show Shl .i64 1 (got : Int) = ((2 ^ got : Nat) : Int) from by have := Shl_nat 1 got (by omega) (by omega); simpa using this]
    rw [W_id (by omega) (by omega), show ((2 ^ got : Nat) : Int) - 1 = ((2 ^ got - 1 : Nat) : Int) from by omega]
    have hd : (byteAt bits (at_ / 8) ||| byteAt bits (at_ / 8 + 1) * 2 ^ 8 ||| byteAt bits (at_ / 8 + 2) * 2 ^ 16) / 2 ^ (at_ % 8) < 16777216 := Nat.lt_of_le_of_lt (Nat.div_le_self _ _) o2
    rw [And_nat (big hd) (by omega), and_mask, peek_num bits at_ got (by omega)]
    have := hK got w.drew.drew hgot ⟨hb, hr, hn, ha⟩ (Fr.refl B 2 w)
    have e : (bits.drop at_).take k = (bits.drop at_).take got := by
      rw [hgot, List.take_eq_take_iff]
      simp
    rw [← e]
    exact this
  rw [W_id (by omega) (by omega), show (bits.length : Int) - (at_ : Int) = ((bits.length - at_ : Nat) : Int) from by omega]
  refine join_ ?_
  by_cases hlt : bits.length - at_ > k
  · rw [if_pos (by simp; omega)]
    exact hj k (by omega) _ rfl
  · rw [if_neg (by simp; omega)]
    exact hj (bits.length - at_) (by omega) _ rfl

theorem skip_spec {k : Nat} {K : Int → World → Prop} (h : RTape w B bits at_) (hk : k ≤ 16) (hl : at_ + k ≤ bits.length)
    (hK : ∀ w', RTape w' B bits (at_ + k) → Fr B 2 w w' → K 0 w') : S.bits_Tape_Skip (B + 1) (k : Int) w K := by
  obtain ⟨hb, hr, hn, ha⟩ := h
  unfold S.bits_Tape_Skip
  refine inRange_spec hk ?_
  rw [if_neg (by simp)]
  refine drew_ ?_
  refine ldI hr.drew rfl (ldI hr.drew rfl ?_)
  rw [W_id (by omega) (by omega), if_neg (by simp; omega)]
  refine ldI hr.drew rfl ?_
  refine st1 hr.drew (by simp) fun w1 r1 f1 s1 => ?_
  rw [W_id (by omega) (by omega)] at r1
  refine hK w1 ⟨hb.drew.fr f1 (by omega), by simpa using r1, hn, hl⟩ ((show Fr (B + 1) 1 w w1 from f1).mono (by omega) (by omega))

theorem take_spec {k : Nat} {K : Int → Int → World → Prop} (h : RTape w B bits at_) (hk : k ≤ 16)
    (hend : bits.length < at_ + k → ∀ w', RTape w' B bits at_ → Fr B 2 w w' → K 0 4 w')
    (hK : at_ + k ≤ bits.length → ∀ w', RTape w' B bits (at_ + k) → Fr B 2 w w' → K (ofBits ((bits.drop at_).take k)) 0 w') : S.bits_Tape_Take (B + 1) (k : Int) w K := by
  unfold S.bits_Tape_Take
  refine peek_spec h hk fun g w1 hg h1 f1 => ?_
  refine inRange_spec hk ?_
  rw [if_neg (by simp)]
  by_cases hl : at_ + k ≤ bits.length
  · rw [if_neg (by simp only [decide_eq_true_eq]; omega)]
    refine ldI h1.rcd rfl ?_
    refine st1 h1.rcd (by simp) fun w2 r2 f2 s2 => ?_
    have hn := h.len
    rw [W_id (by omega) (by omega)] at r2
    exact hK hl w2 ⟨h1.buf.fr f2 (by omega), by simpa using r2, hn, hl⟩ (f1.trans (f2.mono (by omega) (by omega)))
  · have hcur := h.cur
    rw [if_pos (by simp only [decide_eq_true_eq]; omega)]
    exact hend (by omega) w1 h1 f1

theorem sync_spec {K : World → Prop} (h : RTape w B bits at_) (hK : ∀ w', RTape w' B bits (min ((at_ + 7) / 8 * 8) bits.length) → Fr B 2 w w' → K w') : S.bits_Tape_Sync (B + 1) w K := by
  obtain ⟨hb, hr, hn, ha⟩ := h
  unfold S.bits_Tape_Sync
  refine ldI hr rfl ?_
  rw [W_id (by omega) (by omega), show (at_ : Int) + 7 = ((at_ + 7 : Nat) : Int) from by omega, AndNot_7 (by omega)]
  refine st1 hr (by simp) fun w1 r1 f1 s1 => ?_
  refine drew_ (ldI r1.drew rfl (ldI r1.drew rfl ?_))
  have b1 := hb.fr f1 (by omega)
  by_cases hlt : (at_ + 7) / 8 * 8 > bits.length
  · rw [if_pos (by simp; omega)]
    refine ldI r1.drew rfl ?_
    refine st1 r1.drew (by simp) fun w2 r2 f2 s2 => ?_
    refine hK w2 ⟨b1.drew.fr f2 (by omega), ?_, hn, by omega⟩ ((f1.mono (by omega) (by omega)).trans ((show Fr (B + 1) 1 w1 w2 from f2).mono (by omega) (by omega)))
    rw [Nat.min_eq_right (by omega)]
    exact r2
  · rw [if_neg (by simp; omega)]
    refine hK w1.drew ⟨b1, ?_, hn, by omega⟩ (f1.mono (by omega) (by omega))
    rw [Nat.min_eq_left (by omega)]
    exact r1
end Go.Proofs.Qxb6500563aGreat
