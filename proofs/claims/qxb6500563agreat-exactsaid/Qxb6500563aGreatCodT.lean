/-
  The two levels of tables, plain.
-/
import Derived.Test.Qxb6500563aGreatCodN
set_option linter.unusedVariables false
set_option linter.unusedSimpArgs false
namespace Go.Zip
theorem code_lt (n : Nat) (l : Nat → Nat) (s : Nat) : codeOf n l s < 2 ^ l s := rev_lt _ _
theorem heads_self {n : Nat} {l : Nat → Nat} {s : Nat} (h : 0 < l s) : Heads n l (codeOf n l s) s := ⟨h, Nat.mod_eq_of_lt (code_lt n l s)⟩
theorem mod_mod_pow (a : Nat) {i j : Nat} (h : i ≤ j) : a % 2 ^ j % 2 ^ i = a % 2 ^ i := Nat.mod_mod_of_dvd _ (Nat.pow_dvd_pow 2 h)
theorem mod64 (a : Nat) {i : Nat} (h : i ≤ 6) : a % 64 % 2 ^ i = a % 2 ^ i := mod_mod_pow a (j := 6) h
/-- A short code is no head of a long one. -/
theorem short_long {n : Nat} {l : Nat → Nat} {s t p : Nat} (L : Lens n l) (hs : s < n) (ht : t < n) (h1 : 0 < l s) (h2 : l s ≤ 6) (h3 : p % 2 ^ l s = codeOf n l s) (h4 : 6 < l t) : codeOf n l t % 64 ≠ p := fun e => by
  have hh : Heads n l (codeOf n l t) s := ⟨h1, by rw [← h3, ← e, mod64 _ h2]⟩
  have := heads_uniq L hs ht hh (heads_self (by omega))
  subst this
  omega
/-- The first table behind the first sweep over j symbols. -/
structure T1 (n : Nat) (l : Nat → Nat) (j : Nat) (root : Nat → Int) : Prop where
  hit : ∀ p s, p < 64 → s < j → 0 < l s → l s ≤ 6 → p % 2 ^ l s = codeOf n l s → root p = ((s * 16 + l s : Nat) : Int)
  pos : ∀ p, p < 64 → 0 < root p → ∃ s, s < j ∧ 0 < l s ∧ l s ≤ 6 ∧ p % 2 ^ l s = codeOf n l s
  long : ∀ s, s < j → 6 < l s → root (codeOf n l s % 64) ≤ 6 - (l s : Int)
  neg : ∀ p, p < 64 → root p < 0 → ∃ s, s < j ∧ 6 < l s ∧ codeOf n l s % 64 = p ∧ root p = 6 - (l s : Int)
theorem t1_nil (n : Nat) (l : Nat → Nat) : T1 n l 0 fun _ => 0 := ⟨fun p s _ h => by omega, fun p _ h => by simp at h, fun s h => by omega, fun p _ h => by simp at h⟩
theorem t1_none {n : Nat} {l : Nat → Nat} {j : Nat} {root : Nat → Int} (t : T1 n l j root) (h : l j = 0) : T1 n l (j + 1) root := by
  have ne : ∀ s, s < j + 1 → 0 < l s → s < j := fun s hs h0 => by
    rcases Nat.lt_or_ge s j with h' | h'
    · exact h'
    · have : s = j := by omega
      subst this; omega
  refine ⟨fun p s hp hs h1 h2 h3 => t.hit p s hp (ne s hs h1) h1 h2 h3, fun p hp h0 => ?_, fun s hs h6 => t.long s (ne s hs (by omega)) h6, fun p hp h0 => ?_⟩
  · obtain ⟨s, h1, h2⟩ := t.pos p hp h0
    exact ⟨s, by omega, h2⟩
  · obtain ⟨s, h1, h2⟩ := t.neg p hp h0
    exact ⟨s, by omega, h2⟩
theorem t1_short {n : Nat} {l : Nat → Nat} {j : Nat} {root root' : Nat → Int} (L : Lens n l) (hj : j < n) (t : T1 n l j root) (h1 : 0 < l j) (h2 : l j ≤ 6)
    (h : ∀ p, p < 64 → root' p = if p % 2 ^ l j = codeOf n l j then ((j * 16 + l j : Nat) : Int) else root p) : T1 n l (j + 1) root' := by
  refine ⟨fun p s hp hs g1 g2 g3 => ?_, fun p hp h0 => ?_, fun s hs h6 => ?_, fun p hp h0 => ?_⟩
  · rw [h p hp]
    by_cases e : p % 2 ^ l j = codeOf n l j
    · rw [if_pos e]
      have := heads_uniq L (show s < n by omega) hj ⟨g1, g3⟩ ⟨h1, e⟩
      rw [this]
    · rw [if_neg e]
      have hsj : s ≠ j := fun x => e (by rw [← x]; exact g3)
      exact t.hit p s hp (by omega) g1 g2 g3
  · rw [h p hp] at h0
    by_cases e : p % 2 ^ l j = codeOf n l j
    · exact ⟨j, by omega, h1, h2, e⟩
    · rw [if_neg e] at h0
      obtain ⟨s, a1, a2⟩ := t.pos p hp h0
      exact ⟨s, by omega, a2⟩
  · have hsj : s ≠ j := fun x => by subst x; omega
    rw [h _ (by omega)]
    rw [if_neg (fun e => short_long L hj (show s < n by omega) h1 h2 e h6 rfl)]
    exact t.long s (by omega) h6
  · rw [h p hp] at h0 ⊢
    by_cases e : p % 2 ^ l j = codeOf n l j
    · rw [if_pos e] at h0; omega
    · rw [if_neg e] at h0 ⊢
      obtain ⟨s, a1, a2⟩ := t.neg p hp h0
      exact ⟨s, by omega, a2⟩
theorem t1_le {n : Nat} {l : Nat → Nat} {j : Nat} {root : Nat → Int} (L : Lens n l) (hj : j < n) (t : T1 n l j root) (h6 : 6 < l j) : root (codeOf n l j % 64) ≤ 0 := by
  rcases (show 0 < root (codeOf n l j % 64) ∨ root (codeOf n l j % 64) ≤ 0 by omega) with h | h
  · obtain ⟨s, a1, a2, a3, a4⟩ := t.pos _ (by omega) h
    exact absurd rfl (short_long L (show s < n by omega) hj a2 a3 a4 h6)
  · exact h
theorem t1_long {n : Nat} {l : Nat → Nat} {j : Nat} {root root' : Nat → Int} (L : Lens n l) (hj : j < n) (t : T1 n l j root) (h6 : 6 < l j)
    (h : ∀ p, p < 64 → root' p = if p = codeOf n l j % 64 ∧ 6 - (l j : Int) < root p then 6 - (l j : Int) else root p) : T1 n l (j + 1) root' := by
  have h0 := t1_le L hj t h6
  refine ⟨fun p s hp hs g1 g2 g3 => ?_, fun p hp hpos => ?_, fun s hs hl6 => ?_, fun p hp hneg => ?_⟩
  · have hsj : s ≠ j := fun x => by subst x; omega
    rw [h p hp, if_neg (fun e => short_long L (show s < n by omega) hj g1 g2 g3 h6 e.1.symm)]
    exact t.hit p s hp (by omega) g1 g2 g3
  · rw [h p hp] at hpos
    by_cases e : p = codeOf n l j % 64 ∧ 6 - (l j : Int) < root p
    · rw [if_pos e] at hpos; omega
    · rw [if_neg e] at hpos
      obtain ⟨s, a1, a2⟩ := t.pos p hp hpos
      exact ⟨s, by omega, a2⟩
  · rw [h _ (by omega)]
    by_cases hsj : s = j
    · subst hsj
      by_cases e : 6 - (l s : Int) < root (codeOf n l s % 64)
      · rw [if_pos ⟨rfl, e⟩]; omega
      · rw [if_neg (fun x => e x.2)]; omega
    · have := t.long s (by omega) hl6
      by_cases e : codeOf n l s % 64 = codeOf n l j % 64 ∧ 6 - (l j : Int) < root (codeOf n l s % 64)
      · rw [if_pos e]; omega
      · rw [if_neg e]; exact this
  · rw [h p hp] at hneg ⊢
    by_cases e : p = codeOf n l j % 64 ∧ 6 - (l j : Int) < root p
    · rw [if_pos e]; exact ⟨j, by omega, h6, e.1.symm, rfl⟩
    · rw [if_neg e] at hneg ⊢
      obtain ⟨s, a1, a2⟩ := t.neg p hp hneg
      exact ⟨s, by omega, a2⟩

/-- The width of the second table at p. -/
def wd (root0 : Nat → Int) (p : Nat) : Nat := (-root0 p).toNat
/-- The second sweep over q cells. -/
structure T2 (root0 : Nat → Int) (q : Nat) (root : Nat → Int) (st : Nat → Nat) (top : Nat) : Prop where
  old : ∀ p, q ≤ p → root p = root0 p
  keep : ∀ p, p < q → 0 ≤ root0 p → root p = root0 p
  link : ∀ p, p < q → root0 p < 0 → root p = -((st p * 16 + wd root0 p : Nat) : Int) ∧ st p + 2 ^ wd root0 p ≤ top
  disj : ∀ p r, p < r → r < q → root0 p < 0 → root0 r < 0 → st p + 2 ^ wd root0 p ≤ st r
  top : top ≤ q * 16
theorem t2_nil (root0 : Nat → Int) : T2 root0 0 root0 (fun _ => 0) 0 := ⟨fun _ _ => rfl, fun p h => by omega, fun p h => by omega, fun p r h1 h2 => by omega, by omega⟩
theorem t2_keep {root0 root : Nat → Int} {q top : Nat} {st : Nat → Nat} (t : T2 root0 q root st top) (h : 0 ≤ root0 q) : T2 root0 (q + 1) root st top := by
  have ne : ∀ p, p < q + 1 → root0 p < 0 → p < q := fun p hp hn => by
    rcases Nat.lt_or_ge p q with h' | h'
    · exact h'
    · have : p = q := by omega
      subst this; omega
  refine ⟨fun p hp => t.old p (by omega), fun p hp h0 => ?_, fun p hp hn => t.link p (ne p hp hn) hn, fun p r h1 h2 g1 g2 => t.disj p r h1 (ne r h2 g2) g1 g2, by have := t.top; omega⟩
  rcases Nat.lt_or_ge p q with h' | h'
  · exact t.keep p h' h0
  · exact t.old p h'
theorem t2_link {root0 root : Nat → Int} {q top : Nat} {st : Nat → Nat} (t : T2 root0 q root st top) (h : root0 q < 0) (h4 : wd root0 q ≤ 4) :
    T2 root0 (q + 1) (fset root q (-((top * 16 + wd root0 q : Nat) : Int))) (fset st q top) (top + 2 ^ wd root0 q) := by
  have hp0 := Nat.two_pow_pos (wd root0 q)
  have hp : 2 ^ wd root0 q ≤ 16 := show 2 ^ wd root0 q ≤ 2 ^ 4 from Nat.pow_le_pow_right (by omega) h4
  refine ⟨fun p hp => ?_, fun p hp h0 => ?_, fun p hp hn => ?_, fun p r h1 h2 g1 g2 => ?_, by have := t.top; omega⟩
  · rw [fset_ne (by omega)]; exact t.old p (by omega)
  · have : p ≠ q := fun e => by subst e; omega
    rw [fset_ne this]; exact t.keep p (by omega) h0
  · by_cases e : p = q
    · subst e; rw [fset_eq, fset_eq]; exact ⟨rfl, Nat.le_refl _⟩
    · rw [fset_ne e, fset_ne e]
      have := t.link p (by omega) hn
      exact ⟨this.1, by omega⟩
  · rw [fset_ne (by omega : p ≠ q)]
    by_cases e : r = q
    · subst e; rw [fset_eq]; exact (t.link p h1 g1).2
    · rw [fset_ne e]; exact t.disj p r h1 (by omega) g1 g2
/-- The third sweep over j symbols. -/
structure T3 (n : Nat) (l : Nat → Nat) (root0 : Nat → Int) (st : Nat → Nat) (j : Nat) (sub : Nat → Nat) : Prop where
  hit : ∀ p x s, p < 64 → root0 p < 0 → x < 2 ^ wd root0 p → s < j → 6 < l s → codeOf n l s % 64 = p → x % 2 ^ (l s - 6) = codeOf n l s / 64 → sub (st p + x) = s * 16 + l s
  pos : ∀ p x, p < 64 → root0 p < 0 → x < 2 ^ wd root0 p → 0 < sub (st p + x) → ∃ s, s < j ∧ 6 < l s ∧ codeOf n l s % 64 = p ∧ x % 2 ^ (l s - 6) = codeOf n l s / 64
theorem t3_nil {n : Nat} {l : Nat → Nat} {root0 root : Nat → Int} {st : Nat → Nat} {top : Nat} {sub : Nat → Nat} (t : T2 root0 64 root st top) (h : ∀ x, x < top → sub x = 0) : T3 n l root0 st 0 sub :=
  ⟨fun p x s _ _ _ hs => by omega, fun p x hp hn hx h0 => by have := (t.link p hp hn).2; rw [h _ (by omega)] at h0; omega⟩
theorem t3_skip {n : Nat} {l : Nat → Nat} {root0 : Nat → Int} {st : Nat → Nat} {j : Nat} {sub : Nat → Nat} (t : T3 n l root0 st j sub) (h : ¬ 6 < l j) : T3 n l root0 st (j + 1) sub := by
  refine ⟨fun p x s hp hn hx hs h6 h1 h2 => ?_, fun p x hp hn hx h0 => ?_⟩
  · have : s ≠ j := fun e => by subst e; omega
    exact t.hit p x s hp hn hx (by omega) h6 h1 h2
  · obtain ⟨s, a, b⟩ := t.pos p x hp hn hx h0
    exact ⟨s, by omega, b⟩
/-- A place of both tables names the head. -/
theorem heads_join {n : Nat} {l : Nat → Nat} {s p x : Nat} (h6 : 6 < l s) (h1 : codeOf n l s % 64 = p) (h2 : x % 2 ^ (l s - 6) = codeOf n l s / 64) : Heads n l (p + 64 * x) s := by
  refine ⟨by omega, ?_⟩
  have hp : p < 64 := by omega
  have e : 2 ^ l s = 64 * 2 ^ (l s - 6) := by
    rw [show (64 : Nat) = 2 ^ 6 from rfl, ← Nat.pow_add]; congr 1; omega
  have e2 : (p + 64 * x) % (64 * 2 ^ (l s - 6)) = p + 64 * (x % 2 ^ (l s - 6)) := by
    rw [Nat.mod_mul, show (p + 64 * x) % 64 = p from by omega, show (p + 64 * x) / 64 = x from by omega]
  rw [e, e2, h2]
  omega
theorem heads_split {n : Nat} {l : Nat → Nat} {s a : Nat} (h6 : 6 < l s) (h : Heads n l a s) : codeOf n l s % 64 = a % 64 ∧ a / 64 % 2 ^ (l s - 6) = codeOf n l s / 64 := by
  have e : 2 ^ l s = 64 * 2 ^ (l s - 6) := by
    rw [show (64 : Nat) = 2 ^ 6 from rfl, ← Nat.pow_add]; congr 1; omega
  have := h.2
  rw [e, Nat.mod_mul] at this
  omega
theorem t3_long {n : Nat} {l : Nat → Nat} {root0 root : Nat → Int} {st : Nat → Nat} {j top : Nat} {sub sub' : Nat → Nat} (L : Lens n l) (hj : j < n) (t2 : T2 root0 64 root st top) (t : T3 n l root0 st j sub) (h6 : 6 < l j) (hneg : root0 (codeOf n l j % 64) < 0)
    (h : ∀ y, sub' y = if st (codeOf n l j % 64) ≤ y ∧ y < st (codeOf n l j % 64) + 2 ^ wd root0 (codeOf n l j % 64) ∧ (y - st (codeOf n l j % 64)) % 2 ^ (l j - 6) = codeOf n l j / 64 then j * 16 + l j else sub y) : T3 n l root0 st (j + 1) sub' := by
  have hp0 : codeOf n l j % 64 < 64 := by omega
  generalize hP : codeOf n l j % 64 = P at *
  have at_ : ∀ p x, p < 64 → root0 p < 0 → x < 2 ^ wd root0 p → sub' (st p + x) = if p = P ∧ x % 2 ^ (l j - 6) = codeOf n l j / 64 then j * 16 + l j else sub (st p + x) := by
    intro p x hp hn hx
    rw [h]
    by_cases e : p = P
    · subst e
      rw [show st p + x - st p = x from by omega]
      by_cases e2 : x % 2 ^ (l j - 6) = codeOf n l j / 64
      · rw [if_pos ⟨by omega, by omega, e2⟩, if_pos ⟨rfl, e2⟩]
      · rw [if_neg (fun z => e2 z.2.2), if_neg (fun z => e2 z.2)]
    · have hr : ¬ (st P ≤ st p + x ∧ st p + x < st P + 2 ^ wd root0 P ∧ (st p + x - st P) % 2 ^ (l j - 6) = codeOf n l j / 64) := by
        intro z
        have z1 := z.1
        have z2 := z.2.1
        rcases Nat.lt_trichotomy p P with g | g | g
        · have := t2.disj p P g hp0 hn hneg; omega
        · exact e g
        · have := t2.disj P p g hp hneg hn; omega
      rw [if_neg hr, if_neg (fun z => e z.1)]
  refine ⟨fun p x s hp hn hx hs hl6 h1 h2 => ?_, fun p x hp hn hx h0 => ?_⟩
  · rw [at_ p x hp hn hx]
    by_cases e : p = P ∧ x % 2 ^ (l j - 6) = codeOf n l j / 64
    · rw [if_pos e]
      have := heads_uniq L (show s < n by omega) hj (heads_join hl6 h1 h2) (heads_join h6 (hP.trans e.1.symm) e.2)
      rw [this]
    · rw [if_neg e]
      have : s ≠ j := fun z => by subst z; exact e ⟨by rw [← h1, hP], h2⟩
      exact t.hit p x s hp hn hx (by omega) hl6 h1 h2
  · rw [at_ p x hp hn hx] at h0
    by_cases e : p = P ∧ x % 2 ^ (l j - 6) = codeOf n l j / 64
    · exact ⟨j, by omega, h6, by rw [hP, e.1], e.2⟩
    · rw [if_neg e] at h0
      obtain ⟨s, a, b⟩ := t.pos p x hp hn hx h0
      exact ⟨s, by omega, b⟩
/-- What the tables answer for the bits a. -/
def cellAt (root : Nat → Int) (sub : Nat → Nat) (a : Nat) : Nat :=
  if root (a % 64) < 0 then sub ((-root (a % 64)).toNat / 16 + a / 64 % 2 ^ ((-root (a % 64)).toNat % 16)) else (root (a % 64)).toNat
structure Tabs (n : Nat) (l : Nat → Nat) (root : Nat → Int) (sub : Nat → Nat) : Prop where
  hit : ∀ a s, s < n → Heads n l a s → cellAt root sub a = s * 16 + l s
  pos : ∀ a, 0 < cellAt root sub a → ∃ s, s < n ∧ Heads n l a s
  wid : ∀ p, p < 64 → root p < 0 → (-root p).toNat % 16 ≤ 4 ∧ (-root p).toNat / 16 + 2 ^ ((-root p).toNat % 16) ≤ 1024
theorem wd_le {n : Nat} {l : Nat → Nat} {root0 : Nat → Int} (L : Lens n l) (t1 : T1 n l n root0) {p : Nat} (hp : p < 64) (hn : root0 p < 0) : wd root0 p ≤ 4 ∧ 1 ≤ wd root0 p := by
  obtain ⟨s, h1, h2, h3, h4⟩ := t1.neg p hp hn
  have := L.le s h1
  unfold wd
  omega
theorem tabs_of {n : Nat} {l : Nat → Nat} {root0 root : Nat → Int} {st : Nat → Nat} {top : Nat} {sub : Nat → Nat} (L : Lens n l) (t1 : T1 n l n root0) (t2 : T2 root0 64 root st top) (t3 : T3 n l root0 st n sub) : Tabs n l root sub := by
  have lk : ∀ p, p < 64 → root0 p < 0 → root p < 0 ∧ (-root p).toNat / 16 = st p ∧ (-root p).toNat % 16 = wd root0 p := fun p hp hn => by
    have h1 := (t2.link p hp hn).1
    have h2 := wd_le L t1 hp hn
    rw [h1]
    omega
  have nn : ∀ p, p < 64 → ¬ root0 p < 0 → root p = root0 p := fun p hp h => t2.keep p hp (by omega)
  refine ⟨fun a s hs hh => ?_, fun a h0 => ?_, fun p hp hn => ?_⟩
  · have ha : a % 64 < 64 := by omega
    unfold cellAt
    by_cases h6 : 6 < l s
    · obtain ⟨e1, e2⟩ := heads_split h6 hh
      have hlong := t1.long s hs h6
      rw [e1] at hlong
      have hn : root0 (a % 64) < 0 := by omega
      obtain ⟨g1, g2, g3⟩ := lk _ ha hn
      have hw : l s - 6 ≤ wd root0 (a % 64) := by unfold wd; omega
      rw [if_pos g1, g2, g3]
      refine t3.hit (a % 64) _ s ha hn (Nat.mod_lt _ (Nat.two_pow_pos _)) hs h6 e1 ?_
      rw [mod_mod_pow _ hw]
      exact e2
    · have hr := t1.hit (a % 64) s ha hs hh.1 (by omega) (by rw [mod64 _ (by omega)]; exact hh.2)
      have hn : ¬ root0 (a % 64) < 0 := by omega
      rw [nn _ ha hn, if_neg hn, hr]
      rfl
  · have ha : a % 64 < 64 := by omega
    unfold cellAt at h0
    by_cases hn : root0 (a % 64) < 0
    · obtain ⟨g1, g2, g3⟩ := lk _ ha hn
      rw [if_pos g1, g2, g3] at h0
      obtain ⟨s, h1, h2, h3, h4⟩ := t3.pos (a % 64) _ ha hn (Nat.mod_lt _ (Nat.two_pow_pos _)) h0
      have hw : l s - 6 ≤ wd root0 (a % 64) := by
        have := t1.long s h1 h2
        rw [h3] at this
        unfold wd; omega
      rw [mod_mod_pow _ hw] at h4
      have := heads_join h2 h3 h4
      rw [show a % 64 + 64 * (a / 64) = a from by omega] at this
      exact ⟨s, h1, this⟩
    · rw [nn _ ha hn, if_neg hn] at h0
      obtain ⟨s, h1, h2, h3, h4⟩ := t1.pos (a % 64) ha (by omega)
      rw [mod64 _ h3] at h4
      exact ⟨s, h1, h2, h4⟩
  · by_cases h : root0 p < 0
    · obtain ⟨g1, g2, g3⟩ := lk p hp h
      have h2 := wd_le L t1 hp h
      have h3 := (t2.link p hp h).2
      have h4 := t2.top
      rw [g2, g3]
      omega
    · rw [nn p hp h] at hn; exact absurd hn h
end Go.Zip
