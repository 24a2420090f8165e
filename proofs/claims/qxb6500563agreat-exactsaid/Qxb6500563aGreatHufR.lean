/-
  The repair of a set of lengths, plain.
-/
import Derived.Test.Qxb6500563aGreatHufP
set_option linter.unusedVariables false
set_option linter.unusedSimpArgs false
namespace Go.Zip
def beats (c l : Nat → Nat) (rare : Bool) (i b : Nat) : Bool := decide (l b < l i) || (l i == l b && (if rare then decide (c i < c b) else decide (c b < c i)))
def pickTo (c l : Nat → Nat) (lo hi : Nat) (rare : Bool) : Nat → Option Nat
  | 0 => none
  | i + 1 => if decide (lo ≤ l i) && decide (l i ≤ hi) then (match pickTo c l lo hi rare i with | none => some i | some b => if beats c l rare i b then some i else some b) else pickTo c l lo hi rare i
theorem pickTo_spec (c l : Nat → Nat) (lo hi : Nat) (rare : Bool) : ∀ n, (pickTo c l lo hi rare n = none ∧ ∀ i, i < n → ¬ (lo ≤ l i ∧ l i ≤ hi)) ∨
    ∃ b, pickTo c l lo hi rare n = some b ∧ b < n ∧ lo ≤ l b ∧ l b ≤ hi ∧ ∀ i, i < n → lo ≤ l i → l i ≤ hi → l i ≤ l b
  | 0 => .inl ⟨rfl, fun i hi => by omega⟩
  | n + 1 => by
    simp only [pickTo]
    by_cases hp : (decide (lo ≤ l n) && decide (l n ≤ hi)) = true
    · rw [if_pos hp]
      simp only [Bool.and_eq_true, decide_eq_true_eq] at hp
      rcases pickTo_spec c l lo hi rare n with ⟨e, hn⟩ | ⟨b, e, b1, b2, b3, b4⟩
      · rw [e]
        refine .inr ⟨n, rfl, by omega, hp.1, hp.2, fun i hi h1 h2 => ?_⟩
        by_cases hin : i = n
        · subst hin; omega
        · exact absurd ⟨h1, h2⟩ (hn i (by omega))
      · rw [e]
        dsimp only
        by_cases hb : beats c l rare n b = true
        · rw [if_pos hb]
          have hle : l b ≤ l n := by
            simp only [beats, Bool.or_eq_true, decide_eq_true_eq, Bool.and_eq_true, beq_iff_eq] at hb
            omega
          refine .inr ⟨n, rfl, by omega, hp.1, hp.2, fun i hi h1 h2 => ?_⟩
          by_cases hin : i = n
          · subst hin; omega
          · have := b4 i (by omega) h1 h2; omega
        · rw [if_neg hb]
          have hle : l n ≤ l b := by
            simp only [beats, Bool.or_eq_true, decide_eq_true_eq, Bool.and_eq_true, beq_iff_eq] at hb
            omega
          refine .inr ⟨b, rfl, by omega, b2, b3, fun i hi h1 h2 => ?_⟩
          by_cases hin : i = n
          · subst hin; omega
          · exact b4 i (by omega) h1 h2
    · rw [if_neg hp]
      simp only [Bool.and_eq_true, decide_eq_true_eq] at hp
      rcases pickTo_spec c l lo hi rare n with ⟨e, hn⟩ | ⟨b, e, b1, b2, b3, b4⟩
      · refine .inl ⟨e, fun i hi h => ?_⟩
        by_cases hin : i = n
        · subst hin; exact hp h
        · exact hn i (by omega) h
      · refine .inr ⟨b, e, by omega, b2, b3, fun i hi h1 h2 => ?_⟩
        by_cases hin : i = n
        · subst hin; exact absurd ⟨h1, h2⟩ hp
        · exact b4 i (by omega) h1 h2

/-- Kraft's sum, 1024 is one. -/
def unit (x : Nat) : Nat := if 0 < x then 2 ^ (10 - x) else 0
def kr (n : Nat) (l : Nat → Nat) : Nat := sumTo n fun i => unit (l i)
def cut (l : Nat → Nat) : Nat → Nat := fun i => min (l i) 10
def dnS (n : Nat) (c l : Nat → Nat) : Nat → Nat := if 1024 < kr n l then (match pickTo c l 1 9 true n with | some i => fset l i (l i + 1) | none => l) else l
def upS (n : Nat) (c l : Nat → Nat) : Nat → Nat := if kr n l < 1024 then (match pickTo c l 2 10 false n with | some i => fset l i (l i - 1) | none => l) else l
def dnL (n : Nat) (c l : Nat → Nat) : Nat → Nat := iter (dnS n c) (kr n (cut l)) (cut l)
def repairL (n : Nat) (c l : Nat → Nat) : Nat → Nat := iter (upS n c) 1024 (dnL n c l)
structure GoodL (n : Nat) (c l : Nat → Nat) : Prop where
  le : ∀ i, i < n → l i ≤ 10
  pos : ∀ i, i < n → (0 < l i ↔ 0 < c i)
theorem kr_set {n i v : Nat} {l : Nat → Nat} (hi : i < n) : kr n (fset l i v) + unit (l i) = kr n l + unit v := by
  have h := sumTo_set (fun t => unit (l t)) i (unit v) hi
  have e : kr n (fset l i v) = sumTo n (fset (fun t => unit (l t)) i (unit v)) := sumTo_congr fun t ht => by unfold fset; split <;> rfl
  rw [e]
  exact h
theorem unit_succ {x : Nat} (h1 : 1 ≤ x) (h2 : x ≤ 9) : unit x = unit (x + 1) + unit (x + 1) := by
  unfold unit
  rw [if_pos (by omega), if_pos (by omega), ← Nat.two_mul, ← Nat.pow_succ']
  congr 1; omega
theorem unit_pos {x : Nat} (h1 : 1 ≤ x) : 1 ≤ unit x := by
  unfold unit
  rw [if_pos (by omega)]
  exact Nat.two_pow_pos _
theorem good_set {n i v : Nat} {c l : Nat → Nat} (g : GoodL n c l) (hi : i < n) (h1 : 1 ≤ l i) (hv : 1 ≤ v) (hv2 : v ≤ 10) : GoodL n c (fset l i v) := by
  refine ⟨fun t ht => ?_, fun t ht => ?_⟩
  · unfold fset; split
    · exact hv2
    · exact g.le t ht
  · unfold fset; split
    · rename_i e; subst e
      have := g.pos t ht
      constructor
      · intro _; exact this.1 (by omega)
      · intro _; omega
    · exact g.pos t ht
theorem dn_step {n : Nat} {c l : Nat → Nat} (g : GoodL n c l) (hu : usedN n c ≤ 1024) (hk : 1024 < kr n l) :
    ∃ i, pickTo c l 1 9 true n = some i ∧ i < n ∧ 1 ≤ l i ∧ l i ≤ 9 ∧ dnS n c l = fset l i (l i + 1) ∧ GoodL n c (fset l i (l i + 1)) ∧ kr n (fset l i (l i + 1)) + unit (l i + 1) = kr n l := by
  rcases pickTo_spec c l 1 9 true n with ⟨e, hn⟩ | ⟨b, e, b1, b2, b3, b4⟩
  · exfalso
    have : kr n l ≤ usedN n c := by
      refine sumTo_le fun i hi => ?_
      have h1 := hn i hi
      have h2 := g.le i hi
      have h3 := g.pos i hi
      by_cases hc : 0 < c i
      · have : l i = 10 := by have := h3.2 hc; omega
        rw [this]; simp [hc, unit]
      · have : ¬ 0 < l i := fun x => hc (h3.1 x)
        simp [unit, this]
    omega
  · refine ⟨b, e, b1, b2, b3, by unfold dnS; rw [if_pos hk, e], good_set g b1 b2 (by omega) (by omega), ?_⟩
    have := kr_set (v := l b + 1) (l := l) b1
    have := unit_succ b2 b3
    omega
theorem pow_dvd_kr {n : Nat} {l : Nat → Nat} {m : Nat} (hm : m ≤ 10) (h : ∀ i, i < n → l i ≤ m) : 2 ^ (10 - m) ∣ kr n l := by
  induction n with
  | zero => exact ⟨0, rfl⟩
  | succ n ih =>
    have h1 := ih fun i hi => h i (by omega)
    have h2 : 2 ^ (10 - m) ∣ unit (l n) := by
      unfold unit; split
      · exact Nat.pow_dvd_pow 2 (by have := h n (by omega); omega)
      · exact ⟨0, rfl⟩
    exact Nat.dvd_add h1 h2
theorem up_step {n : Nat} {c l : Nat → Nat} (g : GoodL n c l) (hu : 2 ≤ usedN n c) (hk : kr n l < 1024) :
    ∃ i, pickTo c l 2 10 false n = some i ∧ i < n ∧ 2 ≤ l i ∧ l i ≤ 10 ∧ upS n c l = fset l i (l i - 1) ∧ GoodL n c (fset l i (l i - 1)) ∧ kr n (fset l i (l i - 1)) = kr n l + unit (l i) ∧ kr n l + unit (l i) ≤ 1024 := by
  rcases pickTo_spec c l 2 10 false n with ⟨e, hn⟩ | ⟨b, e, b1, b2, b3, b4⟩
  · exfalso
    have : sumTo n (fun i => 512 * (if decide (0 < c i) then 1 else 0)) ≤ kr n l := by
      refine sumTo_le fun i hi => ?_
      have h1 := hn i hi
      have h2 := g.le i hi
      have h3 := g.pos i hi
      by_cases hc : 0 < c i
      · have : l i = 1 := by have := h3.2 hc; omega
        rw [this]; simp [hc, unit]
      · simp [hc]
    rw [sumTo_mul] at this
    have h4 : usedN n c = sumTo n (fun i => if decide (0 < c i) then 1 else 0) := rfl
    omega
  · have h1 := kr_set (v := l b - 1) (l := l) b1
    have h2 := unit_succ (x := l b - 1) (by omega) (by omega)
    rw [show l b - 1 + 1 = l b from by omega] at h2
    have hle : ∀ i, i < n → l i ≤ l b := fun i hi => by
      have := g.le i hi
      rcases Nat.lt_or_ge (l i) 2 with h | h
      · omega
      · exact b4 i hi h this
    have d1 := pow_dvd_kr (n := n) b3 hle
    have d2 : 2 ^ (10 - l b) ∣ 1024 := ⟨2 ^ l b, by rw [← Nat.pow_add, show 10 - l b + l b = 10 from by omega]⟩
    have hun : unit (l b) = 2 ^ (10 - l b) := by unfold unit; rw [if_pos (by omega)]
    have hgap : kr n l + unit (l b) ≤ 1024 := by
      have d3 := Nat.dvd_sub d2 d1
      rw [hun]
      have := Nat.le_of_dvd (by omega) d3
      omega
    exact ⟨b, e, b1, b2, b3, by unfold upS; rw [if_pos hk, e], good_set g b1 (by omega) (by omega) (by omega), by omega, hgap⟩
theorem dn_done {n : Nat} {c l : Nat → Nat} (h : kr n l ≤ 1024) : dnS n c l = l := by unfold dnS; rw [if_neg (by omega)]
theorem up_done {n : Nat} {c l : Nat → Nat} (h : 1024 ≤ kr n l) : upS n c l = l := by unfold upS; rw [if_neg (by omega)]
theorem dn_iter {n : Nat} {c l : Nat → Nat} (g : GoodL n c l) (hu : usedN n c ≤ 1024) : ∀ k, GoodL n c (iter (dnS n c) k l) ∧ (kr n (iter (dnS n c) k l) + k ≤ kr n l ∨ kr n (iter (dnS n c) k l) ≤ 1024)
  | 0 => ⟨g, .inl (by simp [iter])⟩
  | k + 1 => by
    obtain ⟨g1, h1⟩ := dn_iter g hu k
    simp only [iter]
    by_cases hk : 1024 < kr n (iter (dnS n c) k l)
    · obtain ⟨i, e, i1, i2, i3, i4, i5, i6⟩ := dn_step g1 hu hk
      rw [i4]
      have := unit_pos (x := iter (dnS n c) k l i + 1) (by omega)
      exact ⟨i5, .inl (by omega)⟩
    · rw [dn_done (by omega)]
      exact ⟨g1, .inr (by omega)⟩
theorem up_iter {n : Nat} {c l : Nat → Nat} (g : GoodL n c l) (hu : 2 ≤ usedN n c) (hl : kr n l ≤ 1024) : ∀ k, GoodL n c (iter (upS n c) k l) ∧ kr n (iter (upS n c) k l) ≤ 1024 ∧ (k ≤ kr n (iter (upS n c) k l) ∨ kr n (iter (upS n c) k l) = 1024)
  | 0 => ⟨g, hl, .inl (by omega)⟩
  | k + 1 => by
    obtain ⟨g1, h1, h2⟩ := up_iter g hu hl k
    simp only [iter]
    by_cases hk : kr n (iter (upS n c) k l) < 1024
    · obtain ⟨i, e, i1, i2, i3, i4, i5, i6, i7⟩ := up_step g1 hu hk
      rw [i4]
      have := unit_pos (x := iter (upS n c) k l i) (by omega)
      exact ⟨i5, by omega, .inl (by omega)⟩
    · rw [up_done (by omega)]
      exact ⟨g1, h1, .inr (by omega)⟩
theorem good_cut {n : Nat} {c l : Nat → Nat} (h : ∀ i, i < n → (0 < l i ↔ 0 < c i)) : GoodL n c (cut l) :=
  ⟨fun i hi => by unfold cut; omega, fun i hi => by have := h i hi; unfold cut; omega⟩
/-- The first phase, however many steps it took. -/
theorem dnL_eq {n : Nat} {c l : Nat → Nat} (h : ∀ i, i < n → (0 < l i ↔ 0 < c i)) (hu : usedN n c ≤ 1024) {k : Nat} (hk : kr n (iter (dnS n c) k (cut l)) ≤ 1024) : iter (dnS n c) k (cut l) = dnL n c l := by
  refine iter_fix (dn_done hk) (dn_done ?_)
  rcases (dn_iter (good_cut h) hu (kr n (cut l))).2 with h | h <;> omega
theorem dnL_good {n : Nat} {c l : Nat → Nat} (h : ∀ i, i < n → (0 < l i ↔ 0 < c i)) (hu : usedN n c ≤ 1024) : GoodL n c (dnL n c l) ∧ kr n (dnL n c l) ≤ 1024 := by
  have := dn_iter (good_cut h) hu (kr n (cut l))
  refine ⟨this.1, ?_⟩
  rcases this.2 with h | h <;> unfold dnL <;> omega
theorem repairL_eq {n : Nat} {c l : Nat → Nat} (h : ∀ i, i < n → (0 < l i ↔ 0 < c i)) (hu : usedN n c ≤ 1024) (h2 : 2 ≤ usedN n c) {k : Nat} (hk : 1024 ≤ kr n (iter (upS n c) k (dnL n c l))) : iter (upS n c) k (dnL n c l) = repairL n c l := by
  obtain ⟨g, hg⟩ := dnL_good h hu
  refine iter_fix (up_done hk) (up_done ?_)
  have := up_iter g h2 hg 1024
  omega
theorem repairL_good {n : Nat} {c l : Nat → Nat} (h : ∀ i, i < n → (0 < l i ↔ 0 < c i)) (hu : usedN n c ≤ 1024) (h2 : 2 ≤ usedN n c) : GoodL n c (repairL n c l) ∧ kr n (repairL n c l) = 1024 := by
  obtain ⟨g, hg⟩ := dnL_good h hu
  have := up_iter g h2 hg 1024
  exact ⟨this.1, by unfold repairL; omega⟩
/-- A full set of lengths that are no longer than the limit stays as it is. -/
theorem repairL_id {n : Nat} {c l : Nat → Nat} (hk : kr n (cut l) = 1024) : repairL n c l = cut l := by
  have e1 : dnL n c l = cut l := by
    have := iter_stop (f := dnS n c) (a := cut l) (k := 0) (dn_done (by simp only [iter]; omega)) (kr n (cut l))
    rw [Nat.zero_add] at this
    exact this
  unfold repairL
  rw [e1]
  have := iter_stop (f := upS n c) (a := cut l) (k := 0) (up_done (by simp only [iter]; omega)) 1024
  rw [Nat.zero_add] at this
  exact this

/-- THE PLAN. -/
def planL (n : Nat) (c : Nat → Nat) : Nat → Nat := if usedN n c < 2 then fun i => if 0 < c i then 1 else 0 else repairL n c (plainL n c)
theorem plain_iff {n : Nat} {c : Nat → Nat} (h2 : 2 ≤ usedN n c) : ∀ i, i < n → (0 < plainL n c i ↔ 0 < c i) := fun i hi => by
  constructor
  · intro h
    rcases Nat.eq_zero_or_pos (c i) with hz | hz
    · have := (plain_full h2).1 i hi hz; omega
    · exact hz
  · exact plain_pos h2 hi
theorem plain_kr {n : Nat} {c : Nat → Nat} (h2 : 2 ≤ usedN n c) (hle : ∀ i, i < n → plainL n c i ≤ 10) : kr n (cut (plainL n c)) = 1024 := by
  obtain ⟨_, _, h3⟩ := plain_full h2
  have hk := h3 (usedN n c + 10) (by omega)
  have e : sumTo n (fun i => if decide (0 < c i) then 2 ^ (usedN n c + 10 - plainL n c i) else 0) = 2 ^ usedN n c * kr n (cut (plainL n c)) := by
    unfold kr
    rw [← sumTo_mul]
    refine sumTo_congr fun i hi => ?_
    have hl := hle i hi
    have hc : cut (plainL n c) i = plainL n c i := by unfold cut; omega
    rw [hc]
    by_cases hci : 0 < c i
    · have hp := plain_pos h2 hi hci
      simp only [hci, decide_true, if_true, unit, hp]
      rw [← Nat.pow_add]
      congr 1; omega
    · have hp : ¬ 0 < plainL n c i := fun x => hci ((plain_iff h2 i hi).1 x)
      simp [hci, unit, hp]
  rw [hk, Nat.pow_add] at e
  have := Nat.eq_of_mul_eq_mul_left (Nat.two_pow_pos _) e
  omega
/-- Where the tree fits, the plan is the tree. -/
theorem plan_fit {n : Nat} {c : Nat → Nat} (h2 : 2 ≤ usedN n c) (hle : ∀ i, i < n → plainL n c i ≤ 10) : ∀ i, i < n → planL n c i = plainL n c i := fun i hi => by
  have hl := hle i hi
  unfold planL
  rw [if_neg (by omega), repairL_id (plain_kr h2 hle)]
  unfold cut; omega
theorem plan_good {n : Nat} {c : Nat → Nat} (hu : usedN n c ≤ 1024) : GoodL n c (planL n c) ∧ (2 ≤ usedN n c → kr n (planL n c) = 1024) := by
  unfold planL
  by_cases h : usedN n c < 2
  · rw [if_pos h]
    refine ⟨⟨fun i hi => by split <;> omega, fun i hi => by split <;> omega⟩, fun h2 => by omega⟩
  · rw [if_neg h]
    have := repairL_good (n := n) (c := c) (l := plainL n c) (plain_iff (by omega)) hu (by omega)
    exact ⟨this.1, fun _ => this.2⟩
end Go.Zip
