/-
  The bit operations on numbers that are no less than zero.
-/
import Derived.Test.Qxb6500564aGreatMem
namespace Go.Den
theorem W_nat {m : Nat} (h : m < 9223372036854775808) : W (m : Int) = m := W_id (by omega) (by omega)
theorem ofInt_nat (n m : Nat) : BitVec.ofInt n (m : Int) = BitVec.ofNat n m := by
  simp [BitVec.ofInt_natCast]
theorem And_nat {a b : Nat} (ha : a < 9223372036854775808) (hb : b < 9223372036854775808) : And .i64 (a : Int) (b : Int) = ((a &&& b : Nat) : Int) := by
  have h : (a &&& b) < 2 ^ 63 := Nat.and_lt_two_pow _ hb
  have e : ((BitVec.ofInt 64 (a : Int) &&& BitVec.ofInt 64 (b : Int)).toNat) = a &&& b := by
    rw [ofInt_nat, ofInt_nat, BitVec.toNat_and, BitVec.toNat_ofNat, BitVec.toNat_ofNat, Nat.mod_eq_of_lt (by omega), Nat.mod_eq_of_lt (by omega)]
  show IntKind.i64.wrap (((BitVec.ofInt 64 (a : Int) &&& BitVec.ofInt 64 (b : Int)).toNat : Nat) : Int) = _
  rw [e]
  exact W_nat (by omega)
theorem Or_nat {a b : Nat} (ha : a < 9223372036854775808) (hb : b < 9223372036854775808) : Or .i64 (a : Int) (b : Int) = ((a ||| b : Nat) : Int) := by
  have h : (a ||| b) < 2 ^ 63 := Nat.or_lt_two_pow ha hb
  have e : ((BitVec.ofInt 64 (a : Int) ||| BitVec.ofInt 64 (b : Int)).toNat) = a ||| b := by
    rw [ofInt_nat, ofInt_nat, BitVec.toNat_or, BitVec.toNat_ofNat, BitVec.toNat_ofNat, Nat.mod_eq_of_lt (by omega), Nat.mod_eq_of_lt (by omega)]
  show IntKind.i64.wrap (((BitVec.ofInt 64 (a : Int) ||| BitVec.ofInt 64 (b : Int)).toNat : Nat) : Int) = _
  rw [e]
  exact W_nat (by omega)
theorem Xor_nat {a b : Nat} (ha : a < 9223372036854775808) (hb : b < 9223372036854775808) : Xor .i64 (a : Int) (b : Int) = ((a ^^^ b : Nat) : Int) := by
  have h : (a ^^^ b) < 2 ^ 63 := Nat.xor_lt_two_pow ha hb
  have e : ((BitVec.ofInt 64 (a : Int) ^^^ BitVec.ofInt 64 (b : Int)).toNat) = a ^^^ b := by
    rw [ofInt_nat, ofInt_nat, BitVec.toNat_xor, BitVec.toNat_ofNat, BitVec.toNat_ofNat, Nat.mod_eq_of_lt (by omega), Nat.mod_eq_of_lt (by omega)]
  show IntKind.i64.wrap (((BitVec.ofInt 64 (a : Int) ^^^ BitVec.ofInt 64 (b : Int)).toNat : Nat) : Int) = _
  rw [e]
  exact W_nat (by omega)
theorem Or_u8 {a b : Nat} (ha : a < 256) (hb : b < 256) : Or .u8 (a : Int) (b : Int) = ((a ||| b : Nat) : Int) := by
  have h : (a ||| b) < 2 ^ 8 := Nat.or_lt_two_pow ha hb
  have e : ((BitVec.ofInt 8 (a : Int) ||| BitVec.ofInt 8 (b : Int)).toNat) = a ||| b := by
    rw [ofInt_nat, ofInt_nat, BitVec.toNat_or, BitVec.toNat_ofNat, BitVec.toNat_ofNat, Nat.mod_eq_of_lt (by omega), Nat.mod_eq_of_lt (by omega)]
  show IntKind.u8.wrap (((BitVec.ofInt 8 (a : Int) ||| BitVec.ofInt 8 (b : Int)).toNat : Nat) : Int) = _
  rw [e]
  show U8 _ = _
  rw [U8_nat]
  congr 1
  exact Nat.mod_eq_of_lt h
theorem testBit_mask (i : Nat) : (18446744073709551608 : Nat).testBit i = (decide (3 ≤ i) && decide (i < 64)) := by
  have : (18446744073709551608 : Nat) = 2 ^ 3 * (2 ^ 61 - 1) := by decide
  rw [this, Nat.testBit_two_pow_mul, Nat.testBit_two_pow_sub_one]
  rcases Nat.lt_or_ge i 3 with h | h
  · simp [Nat.not_le.2 h]
  · simp only [ge_iff_le, h, decide_true, Bool.true_and]
    rw [decide_eq_decide]
    omega
theorem AndNot_7 {a : Nat} (ha : a < 9223372036854775808) : AndNot .i64 (a : Int) 7 = ((a / 8 * 8 : Nat) : Int) := by
  have e : ((BitVec.ofInt 64 (a : Int) &&& ~~~ (BitVec.ofInt 64 7)).toNat) = a / 8 * 8 := by
    have h7 : (BitVec.ofInt 64 7) = BitVec.ofNat 64 7 := rfl
    rw [ofInt_nat, h7, BitVec.toNat_and, BitVec.toNat_not, BitVec.toNat_ofNat, BitVec.toNat_ofNat, Nat.mod_eq_of_lt (by omega : a < 2 ^ 64)]
    show a &&& 18446744073709551608 = _
    apply Nat.eq_of_testBit_eq
    intro i
    rw [Nat.testBit_and, testBit_mask]
    have h8 : a / 8 * 8 = 2 ^ 3 * (a / 2 ^ 3) := by rw [Nat.mul_comm]
    rw [h8, Nat.testBit_two_pow_mul, Nat.testBit_div_two_pow]
    rcases Nat.lt_or_ge i 3 with h | h
    · simp [Nat.not_le.2 h]
    · simp only [ge_iff_le, h, decide_true, Bool.true_and, Nat.sub_add_cancel h]
      rcases Nat.lt_or_ge i 64 with h' | h'
      · simp [h']
      · have : a.testBit i = false := Nat.testBit_lt_two_pow (Nat.lt_of_lt_of_le (by omega : a < 2 ^ 64) (Nat.pow_le_pow_right (by omega) h'))
        simp [this]
  show IntKind.i64.wrap (((BitVec.ofInt 64 (a : Int) &&& ~~~ (BitVec.ofInt 64 7)).toNat : Nat) : Int) = _
  rw [e]
  exact W_nat (by omega)
theorem and_7 (a : Nat) : a &&& 7 = a % 8 := Nat.and_two_pow_sub_one_eq_mod a 3
theorem and_mask (a k : Nat) : a &&& (2 ^ k - 1) = a % 2 ^ k := Nat.and_two_pow_sub_one_eq_mod a k
end Go.Den
