/-
  Huffman's lengths, plain: groups joined two by two; what holds of them.
-/
import Derived.Test.Qxb6500563aGreatTab
set_option linter.unusedVariables false
set_option linter.unusedSimpArgs false
namespace Go.Zip
/-- The order of the groups: weight, height, number. -/
def kl (w h : Nat → Nat) (x y : Nat) : Prop := w x < w y ∨ (w x = w y ∧ (h x < h y ∨ (h x = h y ∧ x < y)))
def better (w h : Nat → Nat) (x y : Nat) : Bool := decide (w x < w y) || (w x == w y && decide (h x < h y))
theorem better_iff (w h : Nat → Nat) (x y : Nat) : better w h x y = true ↔ w x < w y ∨ (w x = w y ∧ h x < h y) := by simp [better]
def leastTo (w h : Nat → Nat) (P : Nat → Bool) : Nat → Option Nat
  | 0 => none
  | g + 1 => if decide (0 < w g) && P g then (match leastTo w h P g with | none => some g | some b => if better w h g b then some g else some b) else leastTo w h P g
theorem leastTo_spec (w h : Nat → Nat) (P : Nat → Bool) : ∀ n, (leastTo w h P n = none ∧ ∀ g, g < n → 0 < w g → P g = false) ∨
    ∃ b, leastTo w h P n = some b ∧ b < n ∧ 0 < w b ∧ P b = true ∧ ∀ g, g < n → 0 < w g → P g = true → g ≠ b → kl w h b g
  | 0 => .inl ⟨rfl, fun g hg => by omega⟩
  | n + 1 => by
    simp only [leastTo]
    by_cases hp : (decide (0 < w n) && P n) = true
    · rw [if_pos hp]
      simp only [Bool.and_eq_true, decide_eq_true_eq] at hp
      rcases leastTo_spec w h P n with ⟨e, hn⟩ | ⟨b, e, b1, b2, b3, b4⟩
      · rw [e]
        refine .inr ⟨n, rfl, by omega, hp.1, hp.2, fun g hg hw hpg hne => ?_⟩
        have := hn g (by omega) hw
        rw [this] at hpg; cases hpg
      · rw [e]
        dsimp only
        by_cases hb : better w h n b = true
        · rw [if_pos hb]
          have hb' := (better_iff w h n b).1 hb
          refine .inr ⟨n, rfl, by omega, hp.1, hp.2, fun g hg hw hpg hne => ?_⟩
          by_cases hgb : g = b
          · subst hgb; unfold kl; omega
          · have := b4 g (by omega) hw hpg hgb
            unfold kl at this ⊢; omega
        · rw [if_neg hb]
          have hb' : ¬ (w n < w b ∨ (w n = w b ∧ h n < h b)) := fun x => hb ((better_iff w h n b).2 x)
          refine .inr ⟨b, rfl, by omega, b2, b3, fun g hg hw hpg hne => ?_⟩
          by_cases hgn : g = n
          · subst hgn; unfold kl; omega
          · exact b4 g (by omega) hw hpg hne
    · rw [if_neg hp]
      have hp' : 0 < w n → P n = false := fun h0 => by
        cases hc : P n with
        | false => rfl
        | true => exact absurd (by simp [h0, hc]) hp
      rcases leastTo_spec w h P n with ⟨e, hn⟩ | ⟨b, e, b1, b2, b3, b4⟩
      · refine .inl ⟨e, fun g hg hw => ?_⟩
        by_cases hgn : g = n
        · subst hgn; exact hp' hw
        · exact hn g (by omega) hw
      · refine .inr ⟨b, e, by omega, b2, b3, fun g hg hw hpg hne => ?_⟩
        by_cases hgn : g = n
        · subst hgn; rw [hp' hw] at hpg; cases hpg
        · exact b4 g (by omega) hw hpg hne
theorem leastTo_uniq {w h : Nat → Nat} {P : Nat → Bool} {n b : Nat} (b1 : b < n) (b2 : 0 < w b) (b3 : P b = true) (b4 : ∀ g, g < n → 0 < w g → P g = true → g ≠ b → kl w h b g) : leastTo w h P n = some b := by
  rcases leastTo_spec w h P n with ⟨e, hn⟩ | ⟨c, e, c1, c2, c3, c4⟩
  · have := hn b b1 b2; rw [this] at b3; cases b3
  · by_cases hbc : b = c
    · rw [e, hbc]
    · have h1 := b4 c c1 c2 c3 (fun x => hbc x.symm)
      have h2 := c4 b b1 b2 b3 hbc
      unfold kl at h1 h2; omega

structure HS where
  lens : Nat → Nat
  grp : Nat → Nat
  wt : Nat → Nat
  ht : Nat → Nat
def inAB (c : Nat → Nat) (s : HS) (a b i : Nat) : Bool := decide (0 < c i) && (s.grp i == a || s.grp i == b)
def joinAB (c : Nat → Nat) (a b : Nat) (s : HS) : HS :=
  ⟨fun i => if inAB c s a b i then s.lens i + 1 else s.lens i, fun i => if inAB c s a b i then a else s.grp i, fset (fset s.wt a (s.wt a + s.wt b)) b 0, fset s.ht a (max (s.ht a) (s.ht b) + 1)⟩
def joinS (n : Nat) (c : Nat → Nat) (s : HS) : HS :=
  match leastTo s.wt s.ht (fun _ => true) n with
  | none => s
  | some a => match leastTo s.wt s.ht (fun g => g != a) n with
    | none => s
    | some b => joinAB c a b s
def initS (c : Nat → Nat) : HS := ⟨fun _ => 0, id, c, fun _ => 0⟩
def usedN (n : Nat) (c : Nat → Nat) : Nat := cntTo n fun i => decide (0 < c i)
def hst (n : Nat) (c : Nat → Nat) (k : Nat) : HS := iter (joinS n c) k (initS c)
def plainL (n : Nat) (c : Nat → Nat) : Nat → Nat := (hst n c (usedN n c - 1)).lens

/-- What holds behind k joins. -/
structure HInv (n : Nat) (c : Nat → Nat) (k : Nat) (s : HS) : Prop where
  grp : ∀ i, i < n → 0 < c i → s.grp i < n ∧ 0 < s.wt (s.grp i)
  zero : ∀ i, i < n → c i = 0 → s.lens i = 0
  lens : ∀ i, s.lens i ≤ k
  ht : ∀ i, s.ht i ≤ k
  cnt : usedN n s.wt + k = usedN n c
  sum : sumTo n s.wt = sumTo n c
  kraft : ∀ g, g < n → 0 < s.wt g → ∀ M, k ≤ M → sumTo n (fun i => if decide (0 < c i) && s.grp i == g then 2 ^ (M - s.lens i) else 0) = 2 ^ M
theorem hinv_init (n : Nat) (c : Nat → Nat) : HInv n c 0 (initS c) := by
  refine ⟨fun i hi hc => ⟨hi, hc⟩, fun i hi hc => rfl, fun i => Nat.le_refl _, fun i => Nat.le_refl _, rfl, rfl, fun g hg hw M hM => ?_⟩
  have h := sumTo_set (fun _ => 0) g (2 ^ M) hg
  rw [sumTo_zero (f := fun _ => 0) fun i hi => rfl] at h
  rw [sumTo_congr (g := fset (fun _ => 0) g (2 ^ M)) fun i hi => ?_]
  · omega
  · unfold fset
    by_cases hig : i = g
    · subst hig
      have hw' : 0 < c i := hw
      simp [initS, hw']
    · simp [initS, hig]
theorem usedN_two {n : Nat} {w : Nat → Nat} (h : 2 ≤ usedN n w) (a : Nat) : ∃ g, g < n ∧ 0 < w g ∧ g ≠ a := by
  rcases Nat.lt_or_ge 0 (cntTo n fun g => decide (0 < w g) && (g != a)) with h1 | h1
  · have : ∀ n, 0 < (cntTo n fun g => decide (0 < w g) && (g != a)) → ∃ g, g < n ∧ 0 < w g ∧ g ≠ a := by
      intro n
      induction n with
      | zero => intro h; simp [cntTo, sumTo] at h
      | succ n ih =>
        intro h
        rw [cntTo_succ] at h
        by_cases hp : (decide (0 < w n) && (n != a)) = true
        · simp at hp; exact ⟨n, by omega, hp.1, hp.2⟩
        · rw [if_neg hp] at h
          obtain ⟨g, h1, h2⟩ := ih (by omega)
          exact ⟨g, by omega, h2⟩
    exact this n h1
  · have : ∀ n, usedN n w ≤ (cntTo n fun g => decide (0 < w g) && (g != a)) + (if a < n then 1 else 0) := by
      intro n
      induction n with
      | zero => simp [usedN, cntTo, sumTo]
      | succ n ih =>
        unfold usedN at ih ⊢
        rw [cntTo_succ, cntTo_succ]
        by_cases hw : 0 < w n
        · by_cases hna : n = a
          · subst hna
            simp [hw] at ih ⊢
            omega
          · have : (decide (0 < w n) && (n != a)) = true := by simp [hw, hna]
            rw [this]
            simp only [hw, decide_true, if_true]
            split at ih <;> split <;> omega
        · simp only [hw, decide_false, Bool.false_and, Bool.false_eq_true, if_false]
          split at ih <;> split <;> omega
    have := this n
    split at this <;> omega
theorem usedN_join {n : Nat} {w : Nat → Nat} {a b : Nat} (ha : a < n) (hb : b < n) (hwa : 0 < w a) (hwb : 0 < w b) (hne : a ≠ b) : usedN n (fset (fset w a (w a + w b)) b 0) + 1 = usedN n w := by
  unfold usedN cntTo
  have h := sumTo_set (fun i => if decide (0 < w i) = true then 1 else 0) b 0 hb
  simp only [hwb, decide_true, if_true] at h
  rw [sumTo_congr (g := fset (fun i => if decide (0 < w i) = true then 1 else 0) b 0) fun i hi => ?_]
  · omega
  · unfold fset
    by_cases hib : i = b
    · simp [hib]
    · by_cases hia : i = a
      · subst hia
        have : 0 < w i + w b := by omega
        simp [hib, hwa, this]
      · simp [hib, hia]
theorem sum_join {n : Nat} {w : Nat → Nat} {a b : Nat} (ha : a < n) (hb : b < n) (hne : a ≠ b) : sumTo n (fset (fset w a (w a + w b)) b 0) = sumTo n w := by
  have h1 := sumTo_set w a (w a + w b) ha
  have h2 := sumTo_set (fset w a (w a + w b)) b 0 hb
  rw [fset_ne (fun x => hne x.symm)] at h2
  omega
/-- A step while two groups or more live. -/
theorem hinv_step {n : Nat} {c : Nat → Nat} {k : Nat} {s : HS} (h : HInv n c k s) (h2 : 2 ≤ usedN n s.wt) :
    ∃ a b, leastTo s.wt s.ht (fun _ => true) n = some a ∧ leastTo s.wt s.ht (fun g => g != a) n = some b ∧ joinS n c s = joinAB c a b s ∧ a < n ∧ b < n ∧ a ≠ b ∧ 0 < s.wt a ∧ 0 < s.wt b ∧ HInv n c (k + 1) (joinAB c a b s) := by
  rcases leastTo_spec s.wt s.ht (fun _ => true) n with ⟨e, hn⟩ | ⟨a, ea, a1, a2, a3, a4⟩
  · obtain ⟨g, g1, g2, _⟩ := usedN_two h2 n
    have := hn g g1 g2; cases this
  · rcases leastTo_spec s.wt s.ht (fun g => g != a) n with ⟨e, hn⟩ | ⟨b, eb, b1, b2, b3, b4⟩
    · obtain ⟨g, g1, g2, g3⟩ := usedN_two h2 a
      have := hn g g1 g2; simp at this; exact absurd this g3
    · have hab : a ≠ b := by simp at b3; exact fun x => b3 x.symm
      refine ⟨a, b, ea, eb, by simp only [joinS, ea, eb], a1, b1, hab, a2, b2, ?_⟩
      refine ⟨fun i hi hc => ?_, fun i hi hc => ?_, fun i => ?_, fun i => ?_, ?_, ?_, fun g hg hw M hM => ?_⟩
      · have hwa : 0 < fset (fset s.wt a (s.wt a + s.wt b)) b 0 a := by rw [fset_ne hab, fset_eq]; omega
        by_cases hin : inAB c s a b i = true
        · simp only [joinAB, hin, if_true]
          exact ⟨a1, hwa⟩
        · simp only [joinAB, if_neg hin]
          obtain ⟨h1, h2'⟩ := h.grp i hi hc
          simp [inAB, hc] at hin
          rw [fset_ne hin.2, fset_ne hin.1]
          exact ⟨h1, h2'⟩
      · have : inAB c s a b i = false := by simp [inAB, hc]
        simp only [joinAB, this]
        exact h.zero i hi hc
      · have := h.lens i
        simp only [joinAB]; split <;> omega
      · have h1 := h.ht a
        have h2 := h.ht b
        have h3 := h.ht i
        simp only [joinAB, fset]; split <;> omega
      · have := usedN_join a1 b1 a2 b2 hab
        have := h.cnt
        simp only [joinAB]; omega
      · simp only [joinAB]
        rw [sum_join a1 b1 hab]; exact h.sum
      · by_cases hga : g = a
        · subst hga
          obtain ⟨M', rfl⟩ : ∃ M', M = M' + 1 := ⟨M - 1, by omega⟩
          have k1 := h.kraft g hg a2 M' (by omega)
          have k2 := h.kraft b b1 b2 M' (by omega)
          rw [Nat.pow_succ, Nat.mul_two]
          rw [← sumTo_congr (f := fun i => (if decide (0 < c i) && s.grp i == g then 2 ^ (M' - s.lens i) else 0) + (if decide (0 < c i) && s.grp i == b then 2 ^ (M' - s.lens i) else 0)) fun i hi => ?_]
          · rw [sumTo_add, k1, k2]
          · simp only [joinAB]
            have hl := h.lens i
            by_cases hc : 0 < c i
            · by_cases h1 : s.grp i = g
              · have hin : inAB c s g b i = true := by simp [inAB, hc, h1]
                have hb' : ¬ (g = b) := hab
                simp only [hin, if_true, hc, decide_true, Bool.true_and, h1, beq_self_eq_true]
                rw [if_neg (by simpa using hb'), Nat.add_zero, show M' + 1 - (s.lens i + 1) = M' - s.lens i from by omega]
              · by_cases h2 : s.grp i = b
                · have hin : inAB c s g b i = true := by simp [inAB, hc, h2]
                  simp only [hin, if_true, hc, decide_true, Bool.true_and, h2, beq_self_eq_true]
                  rw [if_neg (by simpa using fun x => hab x.symm), Nat.zero_add, show M' + 1 - (s.lens i + 1) = M' - s.lens i from by omega]
                · have hin : inAB c s g b i = false := by simp [inAB, h1, h2]
                  simp [hin, h1, h2]
            · have hin : inAB c s g b i = false := by simp [inAB, hc]
              simp [hc]
        · by_cases hgb : g = b
          · subst hgb
            simp only [joinAB] at hw
            rw [fset_eq] at hw; omega
          · simp only [joinAB] at hw
            rw [fset_ne hgb, fset_ne hga] at hw
            rw [← h.kraft g hg hw M (by omega)]
            refine sumTo_congr fun i hi => ?_
            simp only [joinAB]
            by_cases hin : inAB c s a b i = true
            · have hx := hin
              simp [inAB] at hx
              have hng : ¬ (s.grp i = g) := by rcases hx.2 with e | e <;> rw [e] <;> omega
              simp only [hin, if_true]
              rw [if_neg (by simp; intro _; omega), if_neg (by simp; intro _; exact hng)]
            · have hin' : inAB c s a b i = false := by simpa using hin
              simp [hin']
theorem hinv_all {n : Nat} {c : Nat → Nat} : ∀ k, k + 1 ≤ usedN n c → HInv n c k (hst n c k)
  | 0, _ => hinv_init n c
  | k + 1, hk => by
    have ih := hinv_all (n := n) (c := c) k (by omega)
    have hcnt := ih.cnt
    obtain ⟨a, b, ea, eb, ej, _, _, _, _, _, hi⟩ := hinv_step ih (by omega)
    show HInv n c (k + 1) (joinS n c (hst n c k))
    rw [ej]; exact hi
/-- One group is left: the set is full. -/
theorem full_of {n : Nat} {c : Nat → Nat} {k : Nat} {st : HS} (h : HInv n c k st) (h1 : usedN n st.wt = 1) (M : Nat) (hM : k ≤ M) : sumTo n (fun i => if decide (0 < c i) then 2 ^ (M - st.lens i) else 0) = 2 ^ M := by
  rcases leastTo_spec st.wt st.ht (fun _ => true) n with ⟨e, hn⟩ | ⟨a, ea, a1, a2, a3, a4⟩
  · have hz : usedN n st.wt = 0 := by
      unfold usedN cntTo
      refine sumTo_zero fun i hi => ?_
      by_cases hw : 0 < st.wt i
      · have := hn i hi hw; cases this
      · simp [hw]
    omega
  · have one : ∀ g, g < n → 0 < st.wt g → g = a := by
      intro g hg hw
      by_cases hga : g = a
      · exact hga
      · exfalso
        have h3 := sumTo_set (fun i => if decide (0 < st.wt i) = true then 1 else 0) a 0 a1
        have h4 := sumTo_pos (f := fset (fun i => if decide (0 < st.wt i) = true then 1 else 0) a 0) hg
        rw [fset_ne hga] at h4
        simp only [hw, a2, decide_true, if_true] at h3 h4
        have h1' : sumTo n (fun i => if decide (0 < st.wt i) = true then 1 else 0) = 1 := h1
        omega
    rw [← h.kraft a a1 a2 M hM]
    refine sumTo_congr fun i hi => ?_
    by_cases hc : 0 < c i
    · have := h.grp i hi hc
      have hg := one _ this.1 this.2
      simp [hc, hg]
    · simp [hc]
/-- The lengths of the tree: a full set. -/
theorem plain_full {n : Nat} {c : Nat → Nat} (h2 : 2 ≤ usedN n c) :
    (∀ i, i < n → c i = 0 → plainL n c i = 0) ∧ (∀ i, plainL n c i ≤ usedN n c - 1) ∧ (∀ M, usedN n c - 1 ≤ M → sumTo n (fun i => if decide (0 < c i) then 2 ^ (M - plainL n c i) else 0) = 2 ^ M) := by
  have h := hinv_all (n := n) (c := c) (usedN n c - 1) (by omega)
  have hcnt := h.cnt
  exact ⟨h.zero, h.lens, fun M hM => full_of h (by omega) M hM⟩
theorem plain_pos {n : Nat} {c : Nat → Nat} (h2 : 2 ≤ usedN n c) {i : Nat} (hi : i < n) (hc : 0 < c i) : 0 < plainL n c i := by
  obtain ⟨_, hl, hk⟩ := plain_full h2
  rcases Nat.eq_zero_or_pos (plainL n c i) with hz | hz
  · exfalso
    obtain ⟨j, hj, hcj, hne⟩ := usedN_two h2 i
    have hk' := hk (usedN n c - 1) (Nat.le_refl _)
    have h3 := sumTo_set (fun i => if decide (0 < c i) = true then 2 ^ (usedN n c - 1 - plainL n c i) else 0) i 0 hi
    have h4 := sumTo_pos (f := fset (fun i => if decide (0 < c i) = true then 2 ^ (usedN n c - 1 - plainL n c i) else 0) i 0) hj
    rw [fset_ne hne] at h4
    simp only [hcj, hc, decide_true, if_true, hz, Nat.sub_zero] at h3 h4
    have := Nat.two_pow_pos (usedN n c - 1 - plainL n c j)
    omega
  · exact hz
end Go.Zip
