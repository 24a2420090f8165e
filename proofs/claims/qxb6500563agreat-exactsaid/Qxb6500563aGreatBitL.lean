/-
  Lists of bits, their numbers, their bytes (plain).
-/
import Derived.Test.Qxb6500563aGreatNum
namespace Go.Zip
def ofBits : List Bool → Nat
  | [] => 0
  | b :: r => b.toNat + 2 * ofBits r
def bitsOf (v k : Nat) : List Bool := (List.range k).map v.testBit
/-- Byte j of a row of bits. -/
def byteAt (bits : List Bool) (j : Nat) : Nat := ofBits ((bits.drop (8 * j)).take 8)
def bufOf (bits : List Bool) (m : Nat) : List Nat := (List.range m).map (byteAt bits)

theorem ofBits_testBit : ∀ (l : List Bool) (i : Nat), (ofBits l).testBit i = l[i]?.getD false
  | [], i => by simp [ofBits]
  | b :: r, 0 => by
    simp only [ofBits, Nat.testBit_zero, List.getElem?_cons_zero, Option.getD_some]
    cases b <;> simp <;> omega
  | b :: r, i + 1 => by
    simp only [ofBits, List.getElem?_cons_succ, ← ofBits_testBit r i, Nat.testBit_succ]
    congr 1
    cases b <;> simp <;> omega
theorem ofBits_lt : ∀ (l : List Bool), ofBits l < 2 ^ l.length
  | [] => by simp [ofBits]
  | b :: r => by
    have := ofBits_lt r
    simp only [ofBits, List.length_cons, Nat.pow_succ]
    cases b <;> simp <;> omega
theorem ofBits_inj {l m : List Bool} (hl : l.length = m.length) (h : ofBits l = ofBits m) : l = m := by
  apply List.ext_getElem hl
  intro i h1 h2
  have := ofBits_testBit l i
  rw [h, ofBits_testBit m i] at this
  simpa [h1, h2] using this.symm
@[simp] theorem bitsOf_length (v k : Nat) : (bitsOf v k).length = k := by simp [bitsOf]
theorem bitsOf_get {v k i : Nat} (h : i < k) : (bitsOf v k)[i]? = some (v.testBit i) := by simp [bitsOf, h]
theorem ofBits_bitsOf (v k : Nat) : ofBits (bitsOf v k) = v % 2 ^ k := by
  apply Nat.eq_of_testBit_eq
  intro i
  rw [ofBits_testBit, Nat.testBit_mod_two_pow]
  rcases Nat.lt_or_ge i k with h | h
  · rw [bitsOf_get h]; simp [h]
  · simp [bitsOf, Nat.not_lt.2 h]
theorem bitsOf_ofBits (l : List Bool) : bitsOf (ofBits l) l.length = l := by
  apply List.ext_getElem (by simp)
  intro i h1 h2
  have : (bitsOf (ofBits l) l.length)[i]? = some l[i] := by rw [bitsOf_get h2, ofBits_testBit]; simp [h2]
  rw [List.getElem?_eq_getElem h1] at this
  exact Option.some.inj this
theorem byteAt_testBit (bits : List Bool) (j t : Nat) : (byteAt bits j).testBit t = (decide (t < 8) && (bits[8 * j + t]?).getD false) := by
  unfold byteAt
  rw [ofBits_testBit, List.getElem?_take]
  rcases Nat.lt_or_ge t 8 with h | h
  · simp [h, List.getElem?_drop]
  · simp [Nat.not_lt.2 h]
theorem byteAt_lt (bits : List Bool) (j : Nat) : byteAt bits j < 256 := by
  have h := ofBits_lt ((bits.drop (8 * j)).take 8)
  unfold byteAt
  have h2 : 2 ^ ((bits.drop (8 * j)).take 8).length ≤ 2 ^ 8 := Nat.pow_le_pow_right (by omega) (by simp; omega)
  omega
@[simp] theorem bufOf_length (bits : List Bool) (m : Nat) : (bufOf bits m).length = m := by simp [bufOf]
theorem bufOf_get {bits : List Bool} {m j : Nat} (h : j < m) : (bufOf bits m)[j]? = some (byteAt bits j) := by simp [bufOf, h]
theorem bufOf_nil (m : Nat) : bufOf [] m = List.replicate m 0 := by
  apply List.ext_getElem (by simp)
  intro i h1 h2
  simp [bufOf, byteAt, ofBits]
theorem byteAt_zero {bits : List Bool} {j : Nat} (h : bits.length ≤ 8 * j) : byteAt bits j = 0 := by
  unfold byteAt
  rw [List.drop_eq_nil_of_le h]
  rfl

theorem wipe_set (l : List Nat) (j : Nat) (hj : j < l.length) : (List.replicate j 0 ++ l.drop j).set j 0 = List.replicate (j + 1) 0 ++ l.drop (j + 1) := by
  apply List.ext_getElem (by simp; omega)
  intro i h1 h2
  rw [List.getElem_set]
  by_cases hij : j = i
  · subst hij; simp
  · rw [if_neg hij]
    by_cases hlt2 : i < j
    · rw [List.getElem_append_left (by simpa using hlt2), List.getElem_append_left (by simp; omega)]; simp
    · rw [List.getElem_append_right (by simp; omega), List.getElem_append_right (by simp; omega)]
      simp only [List.length_replicate, List.getElem_drop]
      congr 1; omega
theorem wipe_buf (bits : List Bool) (j m : Nat) (hj : j ≤ m) (h : bits.length ≤ 8 * j) : List.replicate j 0 ++ (bufOf bits m).drop j = List.replicate m 0 := by
  apply List.ext_getElem (by simp; omega)
  intro i h1 h2
  simp only [List.length_replicate] at h2
  by_cases hlt2 : i < j
  · rw [List.getElem_append_left (by simpa using hlt2)]; simp
  · rw [List.getElem_append_right (by simp; omega)]
    simp only [List.length_replicate, List.getElem_drop, List.getElem_replicate]
    have := bufOf_get (bits := bits) (m := m) (j := j + (i - j)) (by omega)
    rw [List.getElem?_eq_getElem (by simp; omega)] at this
    rw [Option.some.inj this]
    exact byteAt_zero (by omega)

/-- A number joins the row: what becomes of each byte. -/
theorem byteAt_append {bits : List Bool} {v k : Nat} (hv : v < 2 ^ k) (j : Nat) :
    byteAt (bits ++ bitsOf v k) j = byteAt bits j ||| (v * 2 ^ bits.length / 2 ^ (8 * j)) % 256 := by
  apply Nat.eq_of_testBit_eq
  intro t
  rw [byteAt_testBit, Nat.testBit_or, byteAt_testBit, show (256 : Nat) = 2 ^ 8 from rfl, Nat.testBit_mod_two_pow, Nat.testBit_div_two_pow, Nat.mul_comm v, Nat.testBit_two_pow_mul]
  rcases Nat.lt_or_ge t 8 with h | h
  · simp only [h, decide_true, Bool.true_and]
    rcases Nat.lt_or_ge (8 * j + t) bits.length with h1 | h1
    · rw [List.getElem?_append_left h1]
      have : ¬ (bits.length ≤ t + 8 * j) := by omega
      simp [this]
    · rw [List.getElem?_append_right h1]
      have h2 : bits.length ≤ t + 8 * j := by omega
      have h3 : t + 8 * j - bits.length = 8 * j + t - bits.length := by omega
      rw [List.getElem?_eq_none h1]
      simp only [Option.getD_none, Bool.false_or, ge_iff_le, h2, decide_true, Bool.true_and, h3]
      rcases Nat.lt_or_ge (8 * j + t - bits.length) k with h4 | h4
      · rw [bitsOf_get h4]; rfl
      · rw [List.getElem?_eq_none (by simpa using h4)]
        exact (Nat.testBit_lt_two_pow (Nat.lt_of_lt_of_le hv (Nat.pow_le_pow_right (by omega) h4))).symm
  · simp [Nat.not_lt.2 h]

theorem put_buf {bits : List Bool} {v k : Nat} (hv : v < 2 ^ k) (hk : k ≤ 16) (m : Nat) :
    (((bufOf bits m).set (bits.length / 8) (byteAt bits (bits.length / 8) ||| (v * 2 ^ (bits.length % 8)) % 256)).set (bits.length / 8 + 1)
      (byteAt bits (bits.length / 8 + 1) ||| (v * 2 ^ (bits.length % 8) / 2 ^ 8) % 256)).set (bits.length / 8 + 2)
      (byteAt bits (bits.length / 8 + 2) ||| (v * 2 ^ (bits.length % 8) / 2 ^ 16) % 256) = bufOf (bits ++ bitsOf v k) m := by
  apply List.ext_getElem (by simp)
  intro j h1 h2
  simp only [bufOf_length] at h2
  have key : (bufOf (bits ++ bitsOf v k) m)[j] = byteAt bits j ||| (v * 2 ^ bits.length / 2 ^ (8 * j)) % 256 := by
    have := bufOf_get (bits := bits ++ bitsOf v k) h2
    rw [List.getElem?_eq_getElem (by simpa using h2)] at this
    rw [Option.some.inj this, byteAt_append hv]
  have old : ∀ h, (bufOf bits m)[j]'h = byteAt bits j := fun h => by
    have := bufOf_get (bits := bits) h2
    rw [List.getElem?_eq_getElem h] at this
    exact Option.some.inj this
  rw [key]
  have hn : 2 ^ bits.length = 2 ^ (bits.length % 8) * 2 ^ (8 * (bits.length / 8)) := by rw [← Nat.pow_add]; congr 1; omega
  have sh : ∀ d, v * 2 ^ bits.length / 2 ^ (8 * (bits.length / 8 + d)) = v * 2 ^ (bits.length % 8) / 2 ^ (8 * d) := fun d => by
    rw [hn, Nat.mul_add, Nat.pow_add, ← Nat.mul_assoc, Nat.mul_comm (2 ^ (8 * (bits.length / 8))) (2 ^ (8 * d)), Nat.mul_div_mul_right _ _ (by exact Nat.two_pow_pos _)]
  rw [List.getElem_set, List.getElem_set, List.getElem_set]
  by_cases e2 : bits.length / 8 + 2 = j
  · subst e2; rw [if_pos rfl, sh 2]
  · rw [if_neg e2]
    by_cases e1 : bits.length / 8 + 1 = j
    · subst e1; rw [if_pos rfl, sh 1]
    · rw [if_neg e1]
      by_cases e0 : bits.length / 8 = j
      · subst e0
        have := sh 0
        simp only [Nat.add_zero, Nat.mul_zero, Nat.pow_zero, Nat.div_one] at this
        rw [if_pos rfl, this]
      · rw [if_neg e0, old]
        have hz : (v * 2 ^ bits.length / 2 ^ (8 * j)) % 256 = 0 := by
          apply Nat.eq_of_testBit_eq
          intro t
          rw [show (256 : Nat) = 2 ^ 8 from rfl, Nat.testBit_mod_two_pow, Nat.testBit_div_two_pow, Nat.mul_comm v, Nat.testBit_two_pow_mul, Nat.zero_testBit]
          rcases Nat.lt_or_ge t 8 with h | h
          · by_cases hle : bits.length ≤ t + 8 * j
            · have : v.testBit (t + 8 * j - bits.length) = false := Nat.testBit_lt_two_pow (Nat.lt_of_lt_of_le hv (Nat.pow_le_pow_right (by omega) (by omega)))
              simp [this]
            · simp [hle]
          · simp [Nat.not_lt.2 h]
        rw [hz, Nat.or_zero]
end Go.Zip
