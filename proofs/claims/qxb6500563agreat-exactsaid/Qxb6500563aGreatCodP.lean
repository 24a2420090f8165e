/-
  The canonical code, plain: numbers, turned codes, the tiling.
-/
import Derived.Test.Qxb6500563aGreatHufR
set_option linter.unusedVariables false
set_option linter.unusedSimpArgs false
namespace Go.Zip
/-- The n low bits of v in the opposite order. -/
def rev (v : Nat) : Nat → Nat
  | 0 => 0
  | k + 1 => 2 * rev v k + v / 2 ^ k % 2
theorem rev_lt (v : Nat) : ∀ n, rev v n < 2 ^ n
  | 0 => by simp [rev]
  | n + 1 => by have := rev_lt v n; simp only [rev, Nat.pow_succ]; omega
theorem rev_testBit (v : Nat) : ∀ n i, (rev v n).testBit i = (decide (i < n) && v.testBit (n - 1 - i))
  | 0, i => by simp [rev]
  | n + 1, 0 => by
    simp only [rev, Nat.testBit_zero, Nat.zero_lt_succ, decide_true, Bool.true_and, Nat.add_sub_cancel, Nat.sub_zero]
    rw [Nat.testBit_eq_decide_div_mod_eq]
    congr 1
    have := Nat.mod_two_eq_zero_or_one (v / 2 ^ n)
    exact propext (by omega)
  | n + 1, i + 1 => by
    have h : rev v (n + 1) / 2 = rev v n := by simp only [rev]; omega
    rw [Nat.testBit_succ, h, rev_testBit v n i]
    by_cases hi : i < n
    · simp only [hi, Nat.succ_lt_succ_iff, decide_true, Bool.true_and]
      congr 1; omega
    · simp [hi]
theorem rev_rev (v n : Nat) : rev (rev v n) n = v % 2 ^ n := by
  apply Nat.eq_of_testBit_eq
  intro i
  rw [rev_testBit, rev_testBit, Nat.testBit_mod_two_pow]
  by_cases hi : i < n
  · have h1 : n - 1 - i < n := by omega
    have h2 : n - 1 - (n - 1 - i) = i := by omega
    simp [hi, h1, h2]
  · simp [hi]
theorem rev_mod (v n m : Nat) (h : n ≤ m) : rev (v % 2 ^ m) n = rev v n := by
  apply Nat.eq_of_testBit_eq
  intro i
  rw [rev_testBit, rev_testBit, Nat.testBit_mod_two_pow]
  by_cases hi : i < n
  · have h1 : n - 1 - i < m := by omega
    simp [hi, h1]
  · simp [hi]
theorem rev_div (v : Nat) {n m : Nat} (h : n ≤ m) : rev v m / 2 ^ (m - n) = rev v n := by
  apply Nat.eq_of_testBit_eq
  intro i
  rw [Nat.testBit_div_two_pow, rev_testBit, rev_testBit]
  by_cases hi : i < n
  · have h1 : i + (m - n) < m := by omega
    have h2 : m - 1 - (i + (m - n)) = n - 1 - i := by omega
    simp [hi, h1, h2]
  · have h1 : ¬ (i + (m - n) < m) := by omega
    simp [hi, h1]
/-- The turned number is the head of a just where the number is a's turned head. -/
theorem rev_iff {a v n : Nat} (hv : v < 2 ^ n) : a % 2 ^ n = rev v n ↔ rev a n = v := by
  constructor
  · intro h
    have := congrArg (fun x => rev x n) h
    simp only [rev_rev, rev_mod _ _ _ (Nat.le_refl n)] at this
    rw [this, Nat.mod_eq_of_lt hv]
  · intro h
    rw [← h, rev_rev]

/-- How many symbols have length k. -/
def cntL (n : Nat) (l : Nat → Nat) (k : Nat) : Nat := cntTo n fun i => l i == k
/-- The number of the first code of length k. -/
def first (n : Nat) (l : Nat → Nat) : Nat → Nat
  | 0 => 0
  | k + 1 => 2 * (first n l k + if k = 0 then 0 else cntL n l k)
def rank (l : Nat → Nat) (s : Nat) : Nat := cntTo s fun t => l t == l s
def numOf (n : Nat) (l : Nat → Nat) (s : Nat) : Nat := first n l (l s) + rank l s
def codeOf (n : Nat) (l : Nat → Nat) (s : Nat) : Nat := rev (numOf n l s) (l s)
/-- Kraft's sum of the lengths 1 .. k. -/
def krTo (n : Nat) (l : Nat → Nat) (k : Nat) : Nat := sumTo n fun i => if 0 < l i ∧ l i ≤ k then 2 ^ (10 - l i) else 0
theorem krTo_succ (n : Nat) (l : Nat → Nat) (k : Nat) : krTo n l (k + 1) = krTo n l k + cntL n l (k + 1) * 2 ^ (10 - (k + 1)) := by
  induction n with
  | zero => simp [krTo, cntL, cntTo, sumTo]
  | succ n ih =>
    have e1 : krTo (n + 1) l (k + 1) = krTo n l (k + 1) + (if 0 < l n ∧ l n ≤ k + 1 then 2 ^ (10 - l n) else 0) := rfl
    have e2 : krTo (n + 1) l k = krTo n l k + (if 0 < l n ∧ l n ≤ k then 2 ^ (10 - l n) else 0) := rfl
    have e3 : cntL (n + 1) l (k + 1) = cntL n l (k + 1) + (if (l n == k + 1) = true then 1 else 0) := rfl
    rw [e1, e2, e3, ih, Nat.add_mul]
    by_cases h1 : l n = k + 1
    · have h1' : (l n == k + 1) = true := by simpa using h1
      rw [if_pos (by omega : 0 < l n ∧ l n ≤ k + 1), if_neg (by omega : ¬ (0 < l n ∧ l n ≤ k)), if_pos h1', h1]
      omega
    · have h1' : ¬ ((l n == k + 1) = true) := by simpa using h1
      rw [if_neg h1']
      by_cases h2 : 0 < l n ∧ l n ≤ k
      · rw [if_pos (by omega : 0 < l n ∧ l n ≤ k + 1), if_pos h2]
        omega
      · rw [if_neg (by omega : ¬ (0 < l n ∧ l n ≤ k + 1)), if_neg h2]
        omega
theorem krTo_zero (n : Nat) (l : Nat → Nat) : krTo n l 0 = 0 := sumTo_zero fun i hi => by rw [if_neg (by omega)]
theorem krTo_ten {n : Nat} {l : Nat → Nat} (h : ∀ i, i < n → l i ≤ 10) : krTo n l 10 = kr n l := sumTo_congr fun i hi => by
  have := h i hi
  unfold unit
  by_cases hp : 0 < l i
  · rw [if_pos ⟨hp, this⟩, if_pos hp]
  · rw [if_neg (by omega), if_neg hp]
theorem krTo_mono (n : Nat) (l : Nat → Nat) {a b : Nat} (h : a ≤ b) : krTo n l a ≤ krTo n l b := sumTo_le fun i _ => by
  by_cases h1 : 0 < l i ∧ l i ≤ a
  · rw [if_pos h1, if_pos (by omega)]; exact Nat.le_refl _
  · rw [if_neg h1]; exact Nat.zero_le _
theorem first_kr (n : Nat) (l : Nat → Nat) : ∀ k, k + 1 ≤ 10 → first n l (k + 1) * 2 ^ (10 - (k + 1)) = krTo n l k
  | 0, _ => by rw [krTo_zero]; simp [first]
  | k + 1, h => by
    have ih := first_kr n l k (by omega)
    rw [krTo_succ, ← ih, ← Nat.add_mul]
    have e : first n l (k + 1 + 1) = 2 * (first n l (k + 1) + cntL n l (k + 1)) := by
      show 2 * (first n l (k + 1) + if k + 1 = 0 then 0 else cntL n l (k + 1)) = _
      rw [if_neg (by omega)]
    rw [e, Nat.mul_comm 2, Nat.mul_assoc, ← Nat.pow_succ']
    congr 2; omega
theorem rank_lt {n : Nat} {l : Nat → Nat} {s : Nat} (h : s < n) : rank l s + 1 ≤ cntL n l (l s) := by
  unfold rank cntL
  have mono : ∀ m, s + 1 ≤ m → cntTo (s + 1) (fun t => l t == l s) ≤ cntTo m (fun t => l t == l s) := by
    intro m
    induction m with
    | zero => intro h; omega
    | succ m ih =>
      intro h
      rcases Nat.lt_or_ge s m with h' | h'
      · have := ih (by omega); rw [cntTo_succ m]; omega
      · have : s = m := by omega
        subst this; exact Nat.le_refl _
  have := mono n (by omega)
  rw [cntTo_succ] at this
  simp at this
  exact this
/-- A symbol's place among the 1024 cells. -/
def start (n : Nat) (l : Nat → Nat) (s : Nat) : Nat := numOf n l s * 2 ^ (10 - l s)
structure Lens (n : Nat) (l : Nat → Nat) : Prop where
  le : ∀ i, i < n → l i ≤ 10
  kr : kr n l ≤ 1024
theorem start_eq {n : Nat} {l : Nat → Nat} {s : Nat} (h1 : 1 ≤ l s) (h2 : l s ≤ 10) : start n l s = krTo n l (l s - 1) + rank l s * 2 ^ (10 - l s) := by
  unfold start numOf
  have := first_kr n l (l s - 1) (by omega)
  rw [show l s - 1 + 1 = l s from by omega] at this
  rw [Nat.add_mul, this]
theorem start_end {n : Nat} {l : Nat → Nat} {s : Nat} (hs : s < n) (h1 : 1 ≤ l s) (h2 : l s ≤ 10) : start n l s + 2 ^ (10 - l s) ≤ krTo n l (l s) := by
  have e := krTo_succ n l (l s - 1)
  rw [show l s - 1 + 1 = l s from by omega] at e
  have hr := rank_lt (l := l) hs
  rw [start_eq h1 h2, e]
  have := Nat.mul_le_mul_right (2 ^ (10 - l s)) hr
  rw [Nat.add_mul, Nat.one_mul] at this
  omega
theorem num_lt {n : Nat} {l : Nat → Nat} {s : Nat} (L : Lens n l) (hs : s < n) (h1 : 1 ≤ l s) : numOf n l s < 2 ^ l s := by
  have h2 := L.le s hs
  have e := start_end hs h1 h2
  have m := krTo_mono n l h2
  rw [krTo_ten L.le] at m
  have k := L.kr
  have hp := Nat.two_pow_pos (10 - l s)
  unfold start at e
  have : numOf n l s * 2 ^ (10 - l s) < 2 ^ l s * 2 ^ (10 - l s) := by
    rw [← Nat.pow_add, show l s + (10 - l s) = 10 from by omega]
    omega
  exact Nat.lt_of_mul_lt_mul_right this
/-- Does the code of s stand at the head of a? -/
def Heads (n : Nat) (l : Nat → Nat) (a s : Nat) : Prop := 0 < l s ∧ a % 2 ^ l s = codeOf n l s
theorem heads_iff {n : Nat} {l : Nat → Nat} {a s : Nat} (L : Lens n l) (hs : s < n) (h1 : 1 ≤ l s) : Heads n l a s ↔ start n l s ≤ rev a 10 ∧ rev a 10 < start n l s + 2 ^ (10 - l s) := by
  have h2 := L.le s hs
  have hd := rev_div a h2
  have hp := Nat.two_pow_pos (10 - l s)
  unfold Heads codeOf start
  rw [rev_iff (num_lt L hs h1), ← hd]
  constructor
  · rintro ⟨_, e⟩
    rw [← e]
    have e1 := Nat.div_add_mod (rev a 10) (2 ^ (10 - l s))
    have e2 := Nat.mod_lt (rev a 10) hp
    rw [Nat.mul_comm] at e1
    omega
  · rintro ⟨e1, e2⟩
    refine ⟨by omega, ?_⟩
    apply Nat.div_eq_of_lt_le
    · exact e1
    · rw [Nat.succ_mul]; exact e2
theorem rank_inj {l : Nat → Nat} {s t : Nat} (hl : l s = l t) (h : rank l s = rank l t) : s = t := by
  have mono : ∀ s t, s < t → l s = l t → rank l s < rank l t := fun s t hst hl => by
    have := rank_lt (n := t) (l := l) hst
    unfold cntL at this
    unfold rank at *
    rw [hl] at this ⊢
    omega
  rcases Nat.lt_trichotomy s t with h' | h' | h'
  · have := mono s t h' hl; omega
  · exact h'
  · have := mono t s h' hl.symm; omega
/-- One head at the most. -/
theorem heads_uniq {n : Nat} {l : Nat → Nat} {a s t : Nat} (L : Lens n l) (hs : s < n) (ht : t < n) (h1 : Heads n l a s) (h2 : Heads n l a t) : s = t := by
  have ls := L.le s hs
  have lt := L.le t ht
  have s1 := (heads_iff L hs h1.1).1 h1
  have t1 := (heads_iff L ht h2.1).1 h2
  have less : ∀ s t, s < n → t < n → 1 ≤ l s → l s < l t → l t ≤ 10 → start n l s + 2 ^ (10 - l s) ≤ start n l t := fun s t hs ht h1 hlt h10 => by
    have e := start_end hs h1 (by omega)
    have m := krTo_mono n l (show l s ≤ l t - 1 by omega)
    rw [start_eq (s := t) (by omega) h10]
    omega
  rcases Nat.lt_trichotomy (l s) (l t) with h | h | h
  · have := less s t hs ht h1.1 h lt; omega
  · refine rank_inj h ?_
    have e1 := h1.2
    have e2 := h2.2
    unfold codeOf at e1 e2
    rw [rev_iff (num_lt L hs h1.1)] at e1
    rw [rev_iff (num_lt L ht h2.1)] at e2
    rw [← h] at e2
    unfold numOf at e1 e2
    rw [← h] at e2
    omega
  · have := less t s ht hs h2.1 h ls; omega
theorem rank_find {l : Nat → Nat} {k : Nat} : ∀ {n r : Nat}, r < cntL n l k → ∃ s, s < n ∧ l s = k ∧ rank l s = r
  | 0, r, h => by simp [cntL, cntTo, sumTo] at h
  | n + 1, r, h => by
    unfold cntL at h
    rw [cntTo_succ] at h
    by_cases hn : l n = k
    · simp only [hn, beq_self_eq_true, if_true] at h
      rcases Nat.lt_or_ge r (cntL n l k) with h' | h'
      · obtain ⟨s, h1, h2⟩ := rank_find h'
        exact ⟨s, by omega, h2⟩
      · refine ⟨n, by omega, hn, ?_⟩
        unfold rank
        rw [hn]
        unfold cntL at h'
        omega
    · have : (l n == k) = false := by simpa using hn
      rw [this] at h
      simp only [Bool.false_eq_true, if_false, Nat.add_zero] at h
      obtain ⟨s, h1, h2⟩ := rank_find h
      exact ⟨s, by omega, h2⟩
/-- A full set: one head for every a. -/
theorem heads_ex {n : Nat} {l : Nat → Nat} (L : Lens n l) (hk : kr n l = 1024) (a : Nat) : ∃ s, s < n ∧ Heads n l a s := by
  have hV := rev_lt a 10
  have hx : ∀ k, k ≤ 10 → rev a 10 < krTo n l k → ∃ s, s < n ∧ Heads n l a s := by
    intro k
    induction k with
    | zero => intro _ h; rw [krTo_zero] at h; omega
    | succ k ih =>
      intro hk10 h
      rcases Nat.lt_or_ge (rev a 10) (krTo n l k) with h' | h'
      · exact ih (by omega) h'
      · rw [krTo_succ] at h
        have hp := Nat.two_pow_pos (10 - (k + 1))
        have hq : (rev a 10 - krTo n l k) / 2 ^ (10 - (k + 1)) < cntL n l (k + 1) := by
          rw [Nat.div_lt_iff_lt_mul hp]; omega
        obtain ⟨s, h1, h2, h3⟩ := rank_find hq
        refine ⟨s, h1, (heads_iff L h1 (by omega)).2 ?_⟩
        rw [start_eq (by omega) (by omega), h2, h3, show k + 1 - 1 = k from rfl]
        have e1 := Nat.div_add_mod (rev a 10 - krTo n l k) (2 ^ (10 - (k + 1)))
        have e2 := Nat.mod_lt (rev a 10 - krTo n l k) hp
        rw [Nat.mul_comm] at e1
        omega
  exact hx 10 (Nat.le_refl _) (by rw [krTo_ten L.le, hk]; exact hV)
end Go.Zip
