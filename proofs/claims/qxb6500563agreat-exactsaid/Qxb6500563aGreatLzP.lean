/-
  The matcher, plain: the longest match, the tokens, the hash chains.
-/
import Derived.Test.Qxb6500563aGreatPln
set_option linter.unusedVariables false
set_option linter.unusedSimpArgs false
namespace Go.Zip
theorem getD_some {l : List Nat} {i : Nat} (h : i < l.length) : l[i]? = some (l.getD i 0) := by simp [List.getD, h]
/-- Do the texts at i and d back agree at their n-th byte? -/
def agree (s : List Nat) (i d n : Nat) : Bool := decide (i + n < s.length) && (s.getD (i + n) 0 == s.getD (i + n - d) 0)
def mlen (s : List Nat) (i d : Nat) : Nat := upto (agree s i d) 10
def bestTo (s : List Nat) (i : Nat) : Nat → Nat × Nat
  | 0 => (0, 0)
  | d + 1 => if mlen s i (d + 1) > (bestTo s i d).1 then (mlen s i (d + 1), d + 1) else bestTo s i d
def best (s : List Nat) (i : Nat) : Nat × Nat := if (bestTo s i (min 16 i)).1 < 3 then (0, 0) else bestTo s i (min 16 i)

theorem bestTo_is (s : List Nat) (i : Nat) : ∀ D, (∀ d, 1 ≤ d → d ≤ D → mlen s i d ≤ (bestTo s i D).1) ∧
    ((bestTo s i D).1 = 0 ∧ (bestTo s i D).2 = 0 ∨ 0 < (bestTo s i D).1 ∧ 1 ≤ (bestTo s i D).2 ∧ (bestTo s i D).2 ≤ D ∧ mlen s i (bestTo s i D).2 = (bestTo s i D).1 ∧ ∀ d, 1 ≤ d → d < (bestTo s i D).2 → mlen s i d < (bestTo s i D).1)
  | 0 => ⟨fun d h1 h2 => by omega, .inl ⟨rfl, rfl⟩⟩
  | D + 1 => by
    obtain ⟨h1, h2⟩ := bestTo_is s i D
    simp only [bestTo]
    by_cases h : mlen s i (D + 1) > (bestTo s i D).1
    · rw [if_pos h]
      refine ⟨fun d hd1 hd2 => ?_, .inr ⟨by simp only; omega, by simp only; omega, by simp only; omega, rfl, fun d hd1 hd2 => ?_⟩⟩
      · rcases Nat.lt_or_ge D d with h' | h'
        · have : d = D + 1 := by omega
          subst this; simp
        · have := h1 d hd1 h'; simp only; omega
      · have := h1 d hd1 (by simp only at hd2; omega); simp only; omega
    · rw [if_neg h]
      refine ⟨fun d hd1 hd2 => ?_, ?_⟩
      · rcases Nat.lt_or_ge D d with h' | h'
        · have : d = D + 1 := by omega
          subst this; omega
        · exact h1 d hd1 h'
      · rcases h2 with h2 | ⟨a, b, c, d, e⟩
        · exact .inl h2
        · exact .inr ⟨a, b, by omega, d, e⟩
/-- What makes a pair the best match. -/
theorem best_eq {s : List Nat} {i bl bd : Nat} (hb : 2 ≤ bl) (hall : ∀ d, 1 ≤ d → d ≤ 16 → d ≤ i → mlen s i d ≤ bl)
    (h : bl = 2 ∧ bd = 0 ∨ 3 ≤ bl ∧ 1 ≤ bd ∧ bd ≤ 16 ∧ bd ≤ i ∧ mlen s i bd = bl ∧ ∀ d, 1 ≤ d → d < bd → mlen s i d < bl) : best s i = if bd = 0 then (0, 0) else (bl, bd) := by
  obtain ⟨h1, h2⟩ := bestTo_is s i (min 16 i)
  unfold best
  rcases h with ⟨rfl, rfl⟩ | ⟨a, b, c, d, e, f⟩
  · rw [if_pos rfl, if_pos]
    rcases h2 with ⟨h2, _⟩ | ⟨_, g1, g2, g3, _⟩
    · omega
    · have := hall _ g1 (by omega) (by omega); omega
  · rw [if_neg (by omega : ¬ bd = 0)]
    have hle := h1 bd b (by omega)
    rcases h2 with ⟨h2, _⟩ | ⟨_, g1, g2, g3, g4⟩
    · omega
    · have h5 := hall _ g1 (by omega) (by omega)
      have e1 : (bestTo s i (min 16 i)).1 = bl := by omega
      have e2 : (bestTo s i (min 16 i)).2 = bd := by
        rcases Nat.lt_trichotomy (bestTo s i (min 16 i)).2 bd with h | h | h
        · have := f _ g1 h; omega
        · exact h
        · have := g4 bd b h; omega
      rw [if_neg (by omega), ← e1, ← e2]
theorem mlen_le (s : List Nat) (i d : Nat) : mlen s i d ≤ 10 := (upto_run _ _).1
theorem mlen_fit {s : List Nat} {i d : Nat} (h : i ≤ s.length) : i + mlen s i d ≤ s.length := by
  rcases Nat.eq_zero_or_pos (mlen s i d) with h' | h'
  · omega
  · have := (upto_run (agree s i d) 10).2.1 (mlen s i d - 1) (by unfold mlen at h' ⊢; omega)
    simp [agree] at this
    omega
theorem best_cases (s : List Nat) (i : Nat) : best s i = (0, 0) ∨ 3 ≤ (best s i).1 ∧ (best s i).1 ≤ 10 ∧ 1 ≤ (best s i).2 ∧ (best s i).2 ≤ 16 ∧ (best s i).2 ≤ i ∧ mlen s i (best s i).2 = (best s i).1 := by
  obtain ⟨h1, h2⟩ := bestTo_is s i (min 16 i)
  unfold best
  by_cases h : (bestTo s i (min 16 i)).1 < 3
  · rw [if_pos h]; exact .inl rfl
  · rw [if_neg h]
    rcases h2 with ⟨h2, _⟩ | ⟨_, g1, g2, g3, _⟩
    · omega
    · have := mlen_le s i (bestTo s i (min 16 i)).2
      exact .inr ⟨by omega, by omega, g1, by omega, by omega, g3⟩
theorem best_fit {s : List Nat} {i : Nat} (h : i ≤ s.length) : i + (best s i).1 ≤ s.length := by
  rcases best_cases s i with h' | ⟨_, _, _, _, _, h'⟩
  · rw [h']; exact h
  · rw [← h']; exact mlen_fit h
theorem mlen_short {s : List Nat} {i d : Nat} (h : s.length < i + 3) : mlen s i d < 3 := by
  rcases Nat.lt_or_ge (mlen s i d) 3 with h' | h'
  · exact h'
  · have := (upto_run (agree s i d) 10).2.1 2 (by unfold mlen at h'; omega)
    simp [agree] at this
    omega
theorem best_short {s : List Nat} {i : Nat} (h : s.length < i + 3) : best s i = (0, 0) := by
  rcases best_cases s i with h' | ⟨a, _, _, _, _, h'⟩
  · exact h'
  · have := mlen_short (d := (best s i).2) h; omega

/-! ### Tokens: (length, distance, literal) -/
abbrev Tok := Nat × Nat × Nat
def pickAt (level : Nat) (s : List Nat) (i : Nat) : Nat × Nat :=
  if level = 0 then (0, 0) else if level = 2 ∧ 0 < (best s i).1 ∧ (best s i).1 < 10 ∧ (best s i).1 < (best s (i + 1)).1 then (0, 0) else best s i
def tokAt (level : Nat) (s : List Nat) (i : Nat) : Tok := if (pickAt level s i).1 = 0 then (0, 0, s.getD i 0) else ((pickAt level s i).1, (pickAt level s i).2, 0)
def adv (t : Tok) : Nat := if t.1 = 0 then 1 else t.1
/-- Behind k tokens: the place, the tokens. -/
def pst (level : Nat) (s : List Nat) : Nat → Nat × List Tok
  | 0 => (0, [])
  | k + 1 => if (pst level s k).1 < s.length then ((pst level s k).1 + adv (tokAt level s (pst level s k).1), (pst level s k).2 ++ [tokAt level s (pst level s k).1]) else pst level s k
def tokens (level : Nat) (s : List Nat) : List Tok := (pst level s s.length).2
theorem pick_cases (level : Nat) (s : List Nat) (i : Nat) : pickAt level s i = (0, 0) ∨ pickAt level s i = best s i ∧ 3 ≤ (best s i).1 := by
  unfold pickAt
  split
  · exact .inl rfl
  · split
    · exact .inl rfl
    · rcases best_cases s i with h | h
      · exact .inl h
      · exact .inr ⟨rfl, h.1⟩
theorem adv_fit {level : Nat} {s : List Nat} {i : Nat} (h : i < s.length) : 1 ≤ adv (tokAt level s i) ∧ i + adv (tokAt level s i) ≤ s.length := by
  rcases pick_cases level s i with e | ⟨e, e2⟩
  · simp [adv, tokAt, e]; omega
  · have := best_fit (s := s) (i := i) (by omega)
    have hne : ¬ ((best s i).1 = 0) := by omega
    simp only [adv, tokAt, e, if_neg hne]
    omega
theorem pst_le (level : Nat) (s : List Nat) : ∀ k, (pst level s k).1 ≤ s.length ∧ ((pst level s k).1 < s.length → k ≤ (pst level s k).1) ∧ (pst level s k).2.length ≤ (pst level s k).1
  | 0 => ⟨by simp [pst], by simp [pst], by simp [pst]⟩
  | k + 1 => by
    obtain ⟨h1, h2, h3⟩ := pst_le level s k
    simp only [pst]
    by_cases h : (pst level s k).1 < s.length
    · rw [if_pos h]
      have := adv_fit (level := level) h
      have := h2 h
      simp only [List.length_append, List.length_cons, List.length_nil]
      omega
    · rw [if_neg h]; exact ⟨h1, fun h' => absurd h' h, h3⟩
theorem pst_stop {level : Nat} {s : List Nat} {k : Nat} (h : s.length ≤ (pst level s k).1) : ∀ j, pst level s (k + j) = pst level s k
  | 0 => rfl
  | j + 1 => by
    have ih := pst_stop h j
    rw [← Nat.add_assoc]
    simp only [pst]
    rw [ih, if_neg (by omega)]
theorem tokens_eq {level : Nat} {s : List Nat} {k : Nat} (h : s.length ≤ (pst level s k).1) : tokens level s = (pst level s k).2 := by
  have hk : s.length ≤ (pst level s s.length).1 := by
    have := pst_le level s s.length
    rcases Nat.lt_or_ge (pst level s s.length).1 s.length with h' | h'
    · have := this.2.1 h'; omega
    · exact h'
  unfold tokens
  rcases Nat.le_total k s.length with h' | h'
  · have := pst_stop h (s.length - k)
    rw [show k + (s.length - k) = s.length from by omega] at this
    rw [this]
  · have := pst_stop hk (k - s.length)
    rw [show s.length + (k - s.length) = k from by omega] at this
    rw [this]

/-! ### The hash chains -/
def hsh (s : List Nat) (p : Nat) : Nat := (s.getD p 0 * 16 ^^^ s.getD (p + 1) 0 * 4 ^^^ s.getD (p + 2) 0) % 64
/-- The last place ahead of p with hash h. -/
def lastH (s : List Nat) : Nat → Nat → Int
  | 0, _ => -1
  | p + 1, h => if p + 3 ≤ s.length ∧ hsh s p = h then (p : Int) else lastH s p h
structure Chain (s : List Nat) (i : Nat) (head prev : List Int) : Prop where
  hl : head.length = 64
  pl : prev.length = 16
  hd : ∀ h, h < 64 → head[h]? = some (lastH s i h)
  pv : ∀ q, q < i → i ≤ q + 16 → q + 3 ≤ s.length → prev[q % 16]? = some (lastH s q (hsh s q))
theorem lastH_cases (s : List Nat) (h : Nat) : ∀ p, lastH s p h = -1 ∨ ∃ q : Nat, lastH s p h = (q : Int) ∧ q < p ∧ q + 3 ≤ s.length ∧ hsh s q = h ∧ ∀ r, q < r → r < p → r + 3 ≤ s.length → hsh s r ≠ h
  | 0 => .inl rfl
  | p + 1 => by
    simp only [lastH]
    by_cases hp : p + 3 ≤ s.length ∧ hsh s p = h
    · rw [if_pos hp]; exact .inr ⟨p, rfl, by omega, hp.1, hp.2, fun r h1 h2 => by omega⟩
    · rw [if_neg hp]
      rcases lastH_cases s h p with e | ⟨q, e, h1, h2, h3, h4⟩
      · exact .inl e
      · refine .inr ⟨q, e, by omega, h2, h3, fun r hr1 hr2 hr3 => ?_⟩
        rcases Nat.lt_or_ge r p with h' | h'
        · exact h4 r hr1 h' hr3
        · have : r = p := by omega
          subst this
          exact fun e => hp ⟨hr3, e⟩
theorem lastH_none {s : List Nat} {h p : Nat} (e : lastH s p h = -1) : ∀ r, r < p → r + 3 ≤ s.length → hsh s r ≠ h := by
  induction p with
  | zero => intro r hr; omega
  | succ p ih =>
    simp only [lastH] at e
    split at e
    · omega
    · rename_i hp
      intro r hr hr3
      rcases Nat.lt_or_ge r p with h' | h'
      · exact ih e r h' hr3
      · have : r = p := by omega
        subst this
        exact fun e => hp ⟨hr3, e⟩
theorem hsh_lt (s : List Nat) (p : Nat) : hsh s p < 64 := Nat.mod_lt _ (by omega)
/-- A match has the hash of its place. -/
theorem mlen_hash {s : List Nat} {i d : Nat} (hd : 1 ≤ d) (hi : d ≤ i) (h : 3 ≤ mlen s i d) : hsh s (i - d) = hsh s i ∧ i - d + 3 ≤ s.length := by
  have g : ∀ n, n < 3 → s.getD (i + n) 0 = s.getD (i - d + n) 0 ∧ i + n < s.length := fun n hn => by
    have := (upto_run (agree s i d) 10).2.1 n (by unfold mlen at h; omega)
    simp only [agree, Bool.and_eq_true, decide_eq_true_eq, beq_iff_eq] at this
    rw [show i - d + n = i + n - d from by omega]
    exact ⟨this.2, this.1⟩
  have g0 := (g 0 (by omega)).1
  have g1 := (g 1 (by omega)).1
  have g2 := g 2 (by omega)
  simp only [Nat.add_zero] at g0
  constructor
  · unfold hsh; rw [g0, g1, g2.1]
  · omega
theorem chain_nil (s : List Nat) {prev : List Int} (hp : prev.length = 16) : Chain s 0 (List.replicate 64 (-1)) prev :=
  ⟨by simp, hp, fun h hh => by rw [List.getElem?_replicate, if_pos hh]; rfl, fun q hq => by omega⟩
theorem chain_enter {s : List Nat} {i : Nat} {head prev : List Int} (c : Chain s i head prev) (hi : i + 3 ≤ s.length) :
    Chain s (i + 1) (head.set (hsh s i) (i : Int)) (prev.set (i % 16) (lastH s i (hsh s i))) := by
  refine ⟨by simp [c.hl], by simp [c.pl], fun h hh => ?_, fun q h1 h2 h3 => ?_⟩
  · rw [List.getElem?_set]
    simp only [lastH]
    by_cases e : hsh s i = h
    · rw [if_pos e, if_pos (by rw [c.hl]; omega), if_pos ⟨hi, e⟩]
    · rw [if_neg e, if_neg (fun x => e x.2)]; exact c.hd h hh
  · rw [List.getElem?_set]
    rcases Nat.lt_or_ge q i with h' | h'
    · rw [if_neg (by omega)]
      exact c.pv q h' (by omega) h3
    · have : q = i := by omega
      subst this
      rw [if_pos rfl, if_pos (by rw [c.pl]; omega)]
theorem chain_skip {s : List Nat} {i : Nat} {head prev : List Int} (c : Chain s i head prev) (hi : ¬ (i + 3 ≤ s.length)) : Chain s (i + 1) head prev := by
  refine ⟨c.hl, c.pl, fun h hh => ?_, fun q h1 h2 h3 => ?_⟩
  · simp only [lastH]; rw [if_neg (fun x => hi x.1)]; exact c.hd h hh
  · exact c.pv q (by omega) (by omega) h3
theorem mlen_span {s : List Nat} {i c : Nat} (hc : c < i) (hi : i ≤ s.length) {n : Nat} (h : IsRun (fun n => s.getD (c + n) 0 == s.getD (i + n) 0) (min (s.length - i) 10) n) : mlen s i (i - c) = n := by
  obtain ⟨h1, h2, h3⟩ := h
  refine upto_eq ⟨by omega, fun m hm => ?_, fun hm => ?_⟩
  · have := h2 m hm
    simp only [beq_iff_eq] at this
    simp only [agree, Bool.and_eq_true, decide_eq_true_eq, beq_iff_eq]
    rw [show i + m - (i - c) = c + m from by omega]
    exact ⟨by omega, this.symm⟩
  · simp only [agree]
    by_cases hl : i + n < s.length
    · have := h3 (by omega)
      rw [show i + n - (i - c) = c + n from by omega]
      simp only [hl, decide_true, Bool.true_and]
      simp only [beq_eq_false_iff_ne, ne_eq] at this ⊢
      exact fun e => this e.symm
    · simp [hl]
theorem mlen_reject {s : List Nat} {i c b : Nat} (hc : c < i) (h : ¬ (s.getD (c + b) 0 = s.getD (i + b) 0)) : mlen s i (i - c) ≤ b := by
  rcases Nat.lt_or_ge b (mlen s i (i - c)) with h' | h'
  · have := (upto_run (agree s i (i - c)) 10).2.1 b h'
    simp only [agree, Bool.and_eq_true, decide_eq_true_eq, beq_iff_eq] at this
    rw [show i + b - (i - c) = c + b from by omega] at this
    exact absurd this.2.symm h
  · exact h'
end Go.Zip
