/-
  The real encoder: the costs, the list machine, the choice.
-/
import Derived.Test.Qxb6500563aGreatEncR
namespace Go.Proofs.Qxb6500563aGreat
open Go.Den Go.Zip
set_option linter.unusedVariables false
set_option linter.unusedSimpArgs false
variable {w w' : World} {B : Nat} {s : PS}

theorem cost_succ (c l : Nat → Nat) (n : Nat) : costTo c l (n + 1) = costTo c l n + c n * gW l n := rfl
theorem gW_lo {l : Nat → Nat} {i : Nat} (h : i < 265) : gW l i = l i := by unfold gW; rw [if_pos h]; rfl
theorem gW_hi (l : Nat → Nat) (j : Nat) : gW l (265 + j) = l (265 + j) + dMore j := by unfold gW; rw [if_neg (by omega), show 265 + j - 265 = j from by omega]
theorem fix_hi (j : Nat) : fixL (265 + j) = 3 := by unfold fixL; rw [if_neg (by omega), if_neg (by omega)]
set_option maxRecDepth 10000 in
theorem block_bodies_spec {K : Int → Int → World → Prop} (h : PK w B s) (hc : ∀ i, s.count i ≤ 513) (hp : ∀ i, i < 273 → s.plan i ≤ 10)
    (hK : K (costTo s.count fixL 273 : Int) (costTo s.count s.plan 273 : Int) w) : S.block_Packer_bodies (B + 28) w K := by
  unfold S.block_Packer_bodies
  refine join_ ?_
  have cf := fun {n : Nat} (hn : n ≤ 273) => cost_le (l := fixL) hc (fun i _ => fix_le i) hn
  have cp := fun {n : Nat} (hn : n ≤ 273) => cost_le (l := s.plan) hc hp hn
  refine loopN (fun m st v => ∃ i : Nat, st = ((costTo s.count fixL i : Int), (costTo s.count s.plan i : Int), (i : Int), ()) ∧ m + i = 265 ∧ v = w) 265 ⟨0, rfl, rfl, rfl⟩ ?_
  rintro m _ v ⟨i, rfl, hm, rfl⟩ Q hQ
  dsimp only
  by_cases hi : i < 265
  · rw [if_pos (by simp only [decide_eq_true_eq]; omega)]
    have b1 := cf (n := i) (by omega)
    have b2 := cp (n := i) (by omega)
    have e1 : costTo s.count fixL (i + 1) = costTo s.count fixL i + s.count i * fixL i := by rw [cost_succ, gW_lo hi]
    have e2 : costTo s.count s.plan (i + 1) = costTo s.count s.plan i + s.count i * s.plan i := by rw [cost_succ, gW_lo hi]
    have h1 := hc i
    refine join_ (ldS h.rc rfl (rdN h.count (by omega) ?_))
    by_cases hz : 0 < s.count i
    · rw [if_pos (by simp only [decide_eq_true_eq]; omega)]
      refine api_FixedLen_spec hi ?_
      have m1 : s.count i * fixL i ≤ 5130 := Nat.mul_le_mul h1 (fix_le i)
      have m2 : s.count i * s.plan i ≤ 5130 := Nat.mul_le_mul h1 (hp i (by omega))
      rw [show W ((s.count i : Int) * (fixL i : Int)) = ((s.count i * fixL i : Nat) : Int) from by rw [← Int.natCast_mul, W_nat (by omega)], W_add (by omega)]
      refine let_ (ldS h.rc rfl (rdN h.plan (by omega) ?_))
      rw [show W ((s.count i : Int) * (s.plan i : Int)) = ((s.count i * s.plan i : Nat) : Int) from by rw [← Int.natCast_mul, W_nat (by omega)], W_add (by omega), W_succ (by omega)]
      exact let_ (let_ (hQ (m - 1) _ _ (by omega) ⟨i + 1, by rw [e1, e2], by omega, rfl⟩))
    · rw [if_neg (by simp only [decide_eq_true_eq]; omega), W_succ (by omega)]
      have hz0 : s.count i = 0 := by omega
      exact let_ (hQ (m - 1) _ _ (by omega) ⟨i + 1, by rw [e1, e2, hz0]; simp, by omega, rfl⟩)
  rw [if_neg (by simp only [decide_eq_true_eq]; omega)]
  have e : i = 265 := by omega
  subst e
  refine join_ ?_
  refine loopN (fun m st u => ∃ j : Nat, st = ((costTo s.count fixL (265 + j) : Int), (costTo s.count s.plan (265 + j) : Int), (j : Int), ()) ∧ m + j = 8 ∧ u = v) 8 ⟨0, rfl, rfl, rfl⟩ ?_
  rintro m _ u ⟨j, rfl, hm, rfl⟩ Q hQ
  dsimp only
  by_cases hj : j < 8
  · rw [if_pos (by simp only [decide_eq_true_eq]; omega)]
    have b1 := cf (n := 265 + j) (by omega)
    have b2 := cp (n := 265 + j) (by omega)
    have hdm := dMore_le j
    have e1 : costTo s.count fixL (265 + (j + 1)) = costTo s.count fixL (265 + j) + s.count (265 + j) * (3 + dMore j) := by
      rw [← Nat.add_assoc, cost_succ, gW_hi, fix_hi]
    have e2 : costTo s.count s.plan (265 + (j + 1)) = costTo s.count s.plan (265 + j) + s.count (265 + j) * (s.plan (265 + j) + dMore j) := by
      rw [← Nat.add_assoc, cost_succ, gW_hi]
    have h1 := hc (265 + j)
    have h2 := hp (265 + j) (by omega)
    rw [show W (265 + (j : Int)) = ((265 + j : Nat) : Int) from by rw [W_id (by omega) (by omega)]; omega]
    refine join_ (ldS h.rc rfl (rdN h.count (by omega) ?_))
    by_cases hz : 0 < s.count (265 + j)
    · rw [if_pos (by simp only [decide_eq_true_eq]; omega)]
      refine api_DistBase_spec hj ?_
      have m1 : s.count (265 + j) * (3 + dMore j) ≤ 513 * 5 := Nat.mul_le_mul h1 (by omega)
      have m2 : s.count (265 + j) * (s.plan (265 + j) + dMore j) ≤ 513 * 12 := Nat.mul_le_mul h1 (by omega)
      rw [show W (3 + (dMore j : Int)) = ((3 + dMore j : Nat) : Int) from by rw [W_id (by omega) (by omega)]; omega]
      rw [show W ((s.count (265 + j) : Int) * ((3 + dMore j : Nat) : Int)) = ((s.count (265 + j) * (3 + dMore j) : Nat) : Int) from by rw [← Int.natCast_mul, W_nat (by omega)], W_add (by omega)]
      refine let_ (ldS h.rc rfl (rdN h.plan (by omega) ?_))
      rw [W_add (by omega), show W ((s.count (265 + j) : Int) * ((s.plan (265 + j) + dMore j : Nat) : Int)) = ((s.count (265 + j) * (s.plan (265 + j) + dMore j) : Nat) : Int) from by rw [← Int.natCast_mul, W_nat (by omega)], W_add (by omega), W_succ (by omega)]
      exact let_ (let_ (hQ (m - 1) _ _ (by omega) ⟨j + 1, by rw [e1, e2], by omega, rfl⟩))
    · rw [if_neg (by simp only [decide_eq_true_eq]; omega), W_succ (by omega)]
      have hz0 : s.count (265 + j) = 0 := by omega
      exact let_ (hQ (m - 1) _ _ (by omega) ⟨j + 1, by rw [e1, e2, hz0]; simp, by omega, rfl⟩)
  · rw [if_neg (by simp only [decide_eq_true_eq]; omega)]
    have e : j = 8 := by omega
    subst e
    exact hK

/-! ### The list machine, plain -/
def runItem (v held : Nat) : Item := if v = 0 then (11, held - 3, 7) else (12, held - 3, 2)
def drainX (v held : Nat) : List Item := if 3 ≤ held then [runItem v held] else List.replicate held (v, 0, 0)
theorem ist_step {l : Nat → Nat} {k p : Nat} {E : List Item} (h : ist l k = (p, E)) (hp : p < 273) : ist l (k + 1) = (p + (itemAt l p).2, E ++ [(itemAt l p).1]) := by
  simp only [ist]; rw [h, if_pos hp]
theorem item_lit {l : Nat → Nat} {p : Nat} (h : ¬ (l p = 0 ∧ 3 ≤ runAt l p)) (h2 : ¬ (0 < p ∧ l p = l (p - 1) ∧ 3 ≤ runAt l p)) : itemAt l p = ((l p, 0, 0), 1) := by
  unfold itemAt; rw [if_neg h, if_neg h2]
theorem drain_plain {l : Nat → Nat} {k p v held : Nat} {E : List Item} (h : ist l k = (p, E)) (h1 : ∀ j, j < held → l (p + j) = v) (h2 : p + held ≤ 273) (h3 : 0 < held → p + held < 273 → l (p + held) ≠ v) (h4 : v = 0 → held ≤ 130) (h5 : v ≠ 0 → held ≤ 6 ∧ (3 ≤ held → 0 < p ∧ l (p - 1) = v)) :
    ∃ k', ist l k' = (p + held, E ++ drainX v held) := by
  unfold drainX
  by_cases hh : 3 ≤ held
  · rw [if_pos hh]
    have hlp : l p = v := h1 0 (by omega)
    have hr : runAt l p = held := run_eq h2 (fun j hj => by rw [h1 j hj, hlp]) (fun h => by rw [hlp]; exact h3 (by omega) h)
    refine ⟨k + 1, ?_⟩
    rw [ist_step h (by omega)]
    unfold itemAt runItem
    rw [hr, hlp]
    by_cases hv : v = 0
    · rw [if_pos ⟨hv, hh⟩, if_pos hv]
      have := h4 hv
      rw [Nat.min_eq_left (by omega)]
    · have := h5 hv
      rw [if_neg (by omega), if_neg hv, if_pos ⟨(this.2 hh).1, (this.2 hh).2.symm, hh⟩]
      rw [Nat.min_eq_left (by omega)]
  · rw [if_neg hh]
    have : held = 0 ∨ held = 1 ∨ held = 2 := by omega
    rcases this with e | e | e
    · subst e; exact ⟨k, by simpa using h⟩
    · subst e
      have hlp : l p = v := h1 0 (by omega)
      have hr : runAt l p = 1 := run_eq h2 (fun j hj => by rw [h1 j hj, hlp]) (fun h => by rw [hlp]; exact h3 (by omega) h)
      refine ⟨k + 1, ?_⟩
      rw [ist_step h (by omega), item_lit (by omega) (by omega), hlp]
      rfl
    · subst e
      have hlp : l p = v := h1 0 (by omega)
      have hlp1 : l (p + 1) = v := h1 1 (by omega)
      have hr : runAt l p = 2 := run_eq h2 (fun j hj => by rw [h1 j hj, hlp]) (fun h => by rw [hlp]; exact h3 (by omega) h)
      have hr1 : runAt l (p + 1) = 1 := run_eq h2 (fun j hj => by
        have : j = 0 := by omega
        subst this; rfl) (fun h => by rw [hlp1]; exact h3 (by omega) h)
      have s1 := ist_step h (by omega)
      rw [item_lit (by omega) (by omega), hlp] at s1
      have s2 := ist_step s1 (by show p + 1 < 273; omega)
      rw [item_lit (by show ¬ (l (p + 1) = 0 ∧ 3 ≤ runAt l (p + 1)); omega) (by show ¬ (0 < p + 1 ∧ l (p + 1) = l (p + 1 - 1) ∧ 3 ≤ runAt l (p + 1)); omega)] at s2
      dsimp only at s2
      rw [hlp1] at s2
      refine ⟨k + 1 + 1, ?_⟩
      rw [s2]
      simp [List.replicate]
theorem run_plain {l : Nat → Nat} {k p v n : Nat} {E : List Item} (h : ist l k = (p, E)) (h1 : ∀ j, j < n → l (p + j) = v) (h2 : p + n ≤ 273) (h3 : (v = 0 ∧ n = 130) ∨ (v ≠ 0 ∧ n = 6 ∧ 0 < p ∧ l (p - 1) = v)) : ist l (k + 1) = (p + n, E ++ [runItem v n]) := by
  have hlp : l p = v := h1 0 (by omega)
  have hr := run_ge (l := l) (i := p) (n := n) h2 (fun j hj => by rw [h1 j hj, hlp]) (by omega)
  rw [ist_step h (by omega)]
  unfold itemAt runItem
  rw [hlp]
  rcases h3 with ⟨hv, hn⟩ | ⟨hv, hn, hp0, hpv⟩
  · subst hn
    rw [if_pos ⟨hv, by omega⟩, if_pos hv, Nat.min_eq_right (by omega)]
  · subst hn
    rw [if_neg (by omega), if_neg hv, if_pos ⟨hp0, hpv.symm, by omega⟩, Nat.min_eq_right (by omega)]
theorem lit_plain {l : Nat → Nat} {k i : Nat} {E : List Item} (h : ist l k = (i, E)) (hi : i < 273) (h0 : l i ≠ 0) (hd : i = 0 ∨ l (i - 1) ≠ l i) : ist l (k + 1) = (i + 1, E ++ [(l i, 0, 0)]) := by
  rw [ist_step h hi, item_lit (by omega) (by omega)]
/-- Where the list machine stands: i lengths read, 'held' of them not yet given out. -/
def LI (l : Nat → Nat) (prev : Int) (held i : Nat) (E : List Item) : Prop :=
  ∃ k, ist l k = (i - held, E) ∧ held ≤ i ∧ ((i = 0 ∧ prev = -1) ∨ (0 < i ∧ prev = (l (i - 1) : Int) ∧ (∀ j, j < held → l (i - held + j) = l (i - 1)) ∧ (l (i - 1) = 0 → held < 130) ∧ (l (i - 1) ≠ 0 → held < 6 ∧ 0 < i - held ∧ l (i - held - 1) = l (i - 1))))
theorem LI_drain {l : Nat → Nat} {prev : Int} {held i : Nat} {E : List Item} (h : LI l prev held i E) (hi : i ≤ 273) (hd : i < 273 → (l i : Int) ≠ prev) : ∃ k, ist l k = (i, E ++ drainX prev.toNat held) := by
  obtain ⟨k, h1, h2, h3⟩ := h
  rcases h3 with ⟨e1, e2⟩ | ⟨p1, p2, p3, p4, p5⟩
  · have : held = 0 := by omega
    subst this
    exact ⟨k, by simpa [drainX, e1] using h1⟩
  · have hv : prev.toNat = l (i - 1) := by omega
    have := drain_plain (v := l (i - 1)) h1 p3 (by omega) (fun _ h => by
      rw [show i - held + held = i from by omega] at *
      have := hd h
      omega) (fun hz => by have := p4 hz; omega) (fun hz => ⟨by have := p5 hz; omega, fun _ => (p5 hz).2⟩)
    obtain ⟨k', hk'⟩ := this
    rw [show i - held + held = i from by omega] at hk'
    rw [hv]
    exact ⟨k', hk'⟩
theorem LI_zero {l : Nat → Nat} {k i : Nat} {E : List Item} (h : ist l k = (i, E)) (hz : l i = 0) : LI l 0 1 (i + 1) E :=
  ⟨k, by rw [h]; simp, by omega, .inr ⟨by omega, by simp [hz], fun j hj => by
    have : j = 0 := by omega
    subst this; simp, fun _ => by omega, fun hne => by simp at hne; omega⟩⟩
theorem LI_lit {l : Nat → Nat} {k i : Nat} {E : List Item} (h : ist l k = (i, E)) (hi : i < 273) (h0 : l i ≠ 0) (hd : i = 0 ∨ l (i - 1) ≠ l i) : LI l (l i : Int) 0 (i + 1) (E ++ [(l i, 0, 0)]) :=
  ⟨k + 1, by rw [lit_plain h hi h0 hd]; simp, by omega, .inr ⟨by omega, by simp, fun j hj => by omega, fun _ => by omega, fun _ => ⟨by omega, by omega, by simp⟩⟩⟩
theorem LI_hold {l : Nat → Nat} {prev : Int} {held i : Nat} {E : List Item} (h : LI l prev held i E) (hs : (l i : Int) = prev) (h1 : prev = 0 → held + 1 < 130) (h2 : prev ≠ 0 → held + 1 < 6) : LI l prev (held + 1) (i + 1) E := by
  obtain ⟨k, a, b, c⟩ := h
  rcases c with ⟨e1, e2⟩ | ⟨p1, p2, p3, p4, p5⟩
  · omega
  · have hli : l i = l (i - 1) := by omega
    have e1 : i + 1 - (held + 1) = i - held := by omega
    refine ⟨k, by rw [e1]; exact a, by omega, .inr ⟨by omega, by simp; omega, fun j hj => ?_, fun _ => by
      have := h1 (by simp at *; omega); omega, fun hne => ?_⟩⟩
    · rw [e1]
      simp only [Nat.add_sub_cancel]
      by_cases hj2 : j = held
      · subst hj2; rw [show i - j + j = i from by omega]
      · rw [p3 j (by omega), hli]
    · simp only [Nat.add_sub_cancel] at *
      have := p5 (by omega)
      have := h2 (by omega)
      rw [e1]
      omega
theorem LI_run {l : Nat → Nat} {prev : Int} {held i : Nat} {E : List Item} (h : LI l prev held i E) (hi : i < 273) (hs : (l i : Int) = prev) (h1 : (prev = 0 ∧ held + 1 = 130) ∨ (prev ≠ 0 ∧ held + 1 = 6)) : LI l prev 0 (i + 1) (E ++ [runItem prev.toNat (held + 1)]) := by
  obtain ⟨k, a, b, c⟩ := h
  rcases c with ⟨e1, e2⟩ | ⟨p1, p2, p3, p4, p5⟩
  · omega
  · have hli : l i = l (i - 1) := by omega
    have hv : prev.toNat = l i := by omega
    have hr := run_plain (v := l i) (n := held + 1) a (fun j hj => by
      by_cases hj2 : j = held
      · subst hj2; rw [show i - j + j = i from by omega]
      · rw [p3 j (by omega), hli]) (by omega) (by
      rcases h1 with ⟨x1, x2⟩ | ⟨x1, x2⟩
      · exact .inl ⟨by omega, x2⟩
      · have := p5 (by omega)
        exact .inr ⟨by omega, x2, this.2.1, by omega⟩)
    refine ⟨k + 1, ?_, by omega, .inr ⟨by omega, by simp; omega, fun j hj => by omega, fun _ => by omega, fun hne => ⟨by omega, by omega, by simp⟩⟩⟩
    rw [hv, hr, show i - held + (held + 1) = i + 1 - 0 from by omega]
theorem LI_len {l : Nat → Nat} {prev : Int} {held i : Nat} {E : List Item} (h : LI l prev held i E) (hi : i ≤ 273) : E.length + held ≤ 273 := by
  obtain ⟨k, a, b, _⟩ := h
  have := (ist_le l k).2.2
  rw [a] at this
  dsimp only at this
  omega

/-! ### The list machine -/
def layS (lay : Bool) (s : PS) (x : List Bool) : PS := if lay then { s with bits := s.bits ++ x } else s
theorem layS_bits (lay : Bool) (s : PS) (x : List Bool) : (layS lay s x).bits.length ≤ s.bits.length + x.length := by unfold layS; split <;> simp
theorem layS_plan (lay : Bool) (s : PS) (x : List Bool) : (layS lay s x).plan = s.plan := by unfold layS; split <;> rfl
theorem layS_lay (lay : Bool) (s : PS) (x y : List Bool) : layS lay (layS lay s x) y = layS lay s (x ++ y) := by
  unfold layS
  cases lay
  · rfl
  · simp
theorem layS_nil (lay : Bool) (s : PS) : layS lay s [] = s := by
  unfold layS
  cases lay
  · rfl
  · simp
variable {lay : Bool}
theorem block_item_spec {x v m : Nat} {K : Int → World → Prop} (h : PK w B s) (hx : x < 16) (hv : v < 2 ^ m) (hm : m ≤ 7) (hl : lay = true → s.bits.length + 11 ≤ 4096)
    (hK : ∀ w', PK w' B (layS lay s (itemB (x, v, m))) → Fr B 33 w w' → K (itemC (x, v, m) : Int) w') : S.block_Packer_item (B + 28) (x : Int) (v : Int) (m : Int) lay w K := by
  unfold S.block_Packer_item
  refine join_ ?_
  rw [show W (4 + (m : Int)) = (itemC (x, v, m) : Int) from by rw [W_id (by omega) (by omega)]; show 4 + (m : Int) = ((4 + m : Nat) : Int); omega]
  cases lay with
  | false =>
    rw [if_neg (by simp)]
    exact hK w h (Fr.refl _ _ _)
  | true =>
    have hl := hl rfl
    rw [if_pos rfl]
    refine ldP h.rc rfl (put_spec (v := x) (k := 4) h.tape (by omega) (by omega) (by omega) fun w1 t1 f1 => ?_)
    have h1 := h.setTape t1 f1
    have F1 := f1.mono (q := B) (m := 33) (by omega) (by omega)
    by_cases hm0 : 0 < m
    · rw [if_pos (by simp only [decide_eq_true_eq]; omega)]
      refine ldP h1.rc rfl (put_spec (v := v) (k := m) h1.tape hv (by omega) (by show (s.bits ++ bitsOf x 4).length + m ≤ 4096; simp; omega) fun w2 t2 f2 => ?_)
      have h2 := h1.setTape t2 f2
      refine hK w2 ?_ (F1.trans (f2.mono (by omega) (by omega)))
      show PK w2 B { s with bits := s.bits ++ (bitsOf x 4 ++ bitsOf v m) }
      rw [← List.append_assoc]
      exact h2
    · rw [if_neg (by simp only [decide_eq_true_eq]; omega)]
      refine hK w1 ?_ F1
      have : m = 0 := by omega
      subst this
      show PK w1 B { s with bits := s.bits ++ (bitsOf x 4 ++ bitsOf v 0) }
      rw [show bitsOf v 0 = [] from rfl, List.append_nil]
      exact h1
theorem runItem_ok {v held : Nat} (h3 : 3 ≤ held) (h1 : v = 0 → held ≤ 130) (h2 : v ≠ 0 → held ≤ 6) : (itemB (runItem v held)).length ≤ 11 ∧ itemC (runItem v held) ≤ 11 := by
  unfold runItem itemB itemC
  split <;> simp
theorem block_run_spec {v held : Nat} {prev : Int} {K : Int → World → Prop} (h : PK w B s) (hp : prev = (v : Int)) (h3 : 3 ≤ held) (h1 : v = 0 → held ≤ 130) (h2 : v ≠ 0 → held ≤ 6) (hl : lay = true → s.bits.length + 11 ≤ 4096)
    (hK : ∀ w', PK w' B (layS lay s (itemB (runItem v held))) → Fr B 33 w w' → K (itemC (runItem v held) : Int) w') : S.block_Packer_run (B + 28) prev (held : Int) lay w K := by
  unfold S.block_Packer_run
  subst hp
  by_cases hv : v = 0
  · rw [if_pos (by simp only [beq_iff_eq]; omega)]
    have := h1 hv
    rw [show W ((held : Int) - 3) = ((held - 3 : Nat) : Int) from by rw [W_id (by omega) (by omega)]; omega]
    refine block_item_spec (x := 11) (v := held - 3) (m := 7) h (by omega) (by omega) (by omega) hl ?_
    unfold runItem at hK
    rw [if_pos hv] at hK
    exact hK
  · rw [if_neg (by simp only [beq_iff_eq]; omega)]
    have := h2 hv
    rw [show W ((held : Int) - 3) = ((held - 3 : Nat) : Int) from by rw [W_id (by omega) (by omega)]; omega]
    refine block_item_spec (x := 12) (v := held - 3) (m := 2) h (by omega) (by omega) (by omega) hl ?_
    unfold runItem at hK
    rw [if_neg hv] at hK
    exact hK
theorem block_drain_spec {v held : Nat} {prev : Int} {K : Int → World → Prop} (h : PK w B s) (hp : held = 0 ∨ prev = (v : Int)) (hv : v ≤ 10) (h1 : v = 0 → held ≤ 130) (h2 : v ≠ 0 → held ≤ 6) (hl : lay = true → s.bits.length + 22 ≤ 4096)
    (hK : ∀ w', PK w' B (layS lay s ((drainX v held).flatMap itemB)) → Fr B 33 w w' → K ((((drainX v held).map itemC).sum : Nat) : Int) w') : S.block_Packer_drain (B + 28) prev (held : Int) lay w K := by
  unfold S.block_Packer_drain
  unfold drainX at hK
  by_cases h3 : 3 ≤ held
  · rw [if_pos (by simp only [decide_eq_true_eq]; omega)]
    rw [if_pos h3] at hK
    refine block_run_spec h (hp.resolve_left (by omega)) h3 h1 h2 (fun e => by have := hl e; omega) fun w1 k1 f1 => ?_
    have := hK w1 (by simpa using k1) f1
    simpa using this
  · rw [if_neg (by simp only [decide_eq_true_eq]; omega)]
    rw [if_neg h3] at hK
    refine loopN (fun m st u => ∃ k : Nat, st = (((((List.replicate k ((v, 0, 0) : Item)).map itemC).sum : Nat) : Int), (k : Int), ()) ∧ m + k = held ∧ PK u B (layS lay s ((List.replicate k ((v, 0, 0) : Item)).flatMap itemB)) ∧ Fr B 33 w u) held
      ⟨0, rfl, by omega, by simpa [layS_nil] using h, Fr.refl _ _ _⟩ ?_
    rintro m _ u ⟨k, rfl, hm, hu, fu⟩ Q hQ
    dsimp only
    have hlen : ((List.replicate k ((v, 0, 0) : Item)).flatMap itemB).length = k * 4 := by
      rw [flat_sum]
      simp [itemB]
    have hsum : ((List.replicate k ((v, 0, 0) : Item)).map itemC).sum = k * 4 := by simp [itemC]
    have hlb := layS_bits lay s ((List.replicate k ((v, 0, 0) : Item)).flatMap itemB)
    by_cases hk : k < held
    · rw [if_pos (by simp only [decide_eq_true_eq]; omega)]
      rw [hp.resolve_left (by omega)]
      refine block_item_spec (x := v) (v := 0) (m := 0) hu (by omega) (by omega) (by omega) (fun e => by have := hl e; omega) fun u2 h2 f2 => ?_
      rw [layS_lay] at h2
      have e1 : (List.replicate (k + 1) ((v, 0, 0) : Item)).flatMap itemB = (List.replicate k ((v, 0, 0) : Item)).flatMap itemB ++ itemB (v, 0, 0) := by rw [List.replicate_succ', List.flatMap_append]; simp
      have e2 : ((List.replicate (k + 1) ((v, 0, 0) : Item)).map itemC).sum = k * 4 + 4 := by simp [itemC]; omega
      rw [hsum, show (itemC (v, 0, 0) : Int) = ((4 : Nat) : Int) from rfl, W_add (by omega), W_succ (by omega)]
      exact let_ (let_ (hQ (m - 1) _ _ (by omega) ⟨k + 1, by rw [e2], by omega, by rw [e1]; exact h2, fu.trans f2⟩))
    · rw [if_neg (by simp only [decide_eq_true_eq]; omega)]
      have hke : k = held := by omega
      subst hke
      exact hK u hu fu

theorem drain_len (v held : Nat) : ((drainX v held).flatMap itemB).length ≤ 11 ∧ ((drainX v held).map itemC).sum ≤ 11 := by
  unfold drainX
  by_cases h : 3 ≤ held
  · rw [if_pos h]
    unfold runItem
    split <;> simp [itemB, itemC]
  · rw [if_neg h]
    have : held = 0 ∨ held = 1 ∨ held = 2 := by omega
    rcases this with e | e | e <;> subst e <;> simp [itemB, itemC, List.replicate]

set_option maxRecDepth 10000 in
theorem block_list_spec {K : Int → World → Prop} (h : PK w B s) (hle : ∀ i, i < 273 → s.plan i ≤ 10) (hl : lay = true → s.bits.length ≤ 1000)
    (hK : ∀ w', PK w' B (layS lay s (listB s.plan)) → Fr B 33 w w' → K (listC s.plan : Int) w') : S.block_Packer_list (B + 28) lay w K := by
  unfold S.block_Packer_list
  refine join_ ?_
  refine loopN (fun m st u => ∃ (prev : Int) (held i : Nat) (E : List Item), st = (prev, (held : Int), (((E.map itemC).sum : Nat) : Int), (i : Int), ()) ∧ m + i = 273 ∧ LI s.plan prev held i E ∧ (∀ t ∈ E, ItemOK t) ∧ PK u B (layS lay s (E.flatMap itemB)) ∧ Fr B 33 w u) 273
    ⟨-1, 0, 0, [], rfl, rfl, ⟨0, rfl, by omega, .inl ⟨rfl, rfl⟩⟩, fun t ht => by simp at ht, by rw [List.flatMap_nil, layS_nil]; exact h, Fr.refl _ _ _⟩ ?_
  rintro m _ u ⟨prev, held, i, E, rfl, hm, hLI, hok, hu, fu⟩ Q hQ
  dsimp only
  have hEl := LI_len hLI (by omega)
  have hsb : (E.map itemC).sum ≤ 3003 := by
    have := sum_le_c itemC 11 E fun t ht => by have := (hok t ht).2.1; unfold itemC; omega
    omega
  have hbl : lay = true → (layS lay s (E.flatMap itemB)).bits.length ≤ 4003 := by
    intro el
    have hl := hl el
    have h1 := layS_bits lay s (E.flatMap itemB)
    have h2 : (E.flatMap itemB).length ≤ 3003 := by
      rw [flat_sum]
      have := sum_le_c (fun t => (itemB t).length) 11 E fun t ht => by have := (hok t ht).2.1; unfold itemB; simp; omega
      omega
    omega
  have hprev : prev = -1 ∨ ∃ v : Nat, prev = (v : Int) ∧ v ≤ 10 ∧ (v = 0 → held ≤ 130) ∧ (v ≠ 0 → held ≤ 6) := by
    obtain ⟨k, a, b, c⟩ := hLI
    rcases c with ⟨e1, e2⟩ | ⟨p1, p2, p3, p4, p5⟩
    · exact .inl e2
    · exact .inr ⟨_, p2, hle _ (by omega), fun hz => by have := p4 hz; omega, fun hz => by have := p5 hz; omega⟩
  have hheld0 : prev = -1 → held = 0 := by
    intro e
    obtain ⟨k, a, b, c⟩ := hLI
    rcases c with ⟨e1, e2⟩ | ⟨p1, p2, p3, p4, p5⟩ <;> omega
  -- what is held is given out
  have drn : ∀ {K' : Int → World → Prop}, (∀ u2, PK u2 B (layS lay s ((E ++ drainX prev.toNat held).flatMap itemB)) → Fr B 33 w u2 → K' ((((drainX prev.toNat held).map itemC).sum : Nat) : Int) u2) → S.block_Packer_drain (B + 28) prev (held : Int) lay u K' := by
    intro K' hK'
    have cont : ∀ u2, PK u2 B (layS lay (layS lay s (E.flatMap itemB)) ((drainX prev.toNat held).flatMap itemB)) → Fr B 33 u u2 → K' ((((drainX prev.toNat held).map itemC).sum : Nat) : Int) u2 := fun u2 h2 f2 => by
      rw [layS_lay, ← List.flatMap_append] at h2
      exact hK' u2 h2 (fu.trans f2)
    rcases hprev with e | ⟨v, e, v1, v2, v3⟩
    · have hz := hheld0 e
      refine block_drain_spec (v := prev.toNat) hu (.inl hz) (by omega) (fun _ => by omega) (fun _ => by omega) (fun e => by have := hbl e; omega) cont
    · have hv : prev.toNat = v := by omega
      rw [hv] at cont
      exact block_drain_spec (v := v) hu (.inr e) v1 v2 v3 (fun e => by have := hbl e; omega) cont
  have hdok : ∀ t ∈ E ++ drainX prev.toNat held, ItemOK t := by
    intro t ht
    simp only [List.mem_append] at ht
    rcases ht with ht | ht
    · exact hok t ht
    · unfold drainX at ht
      have hv10 : prev.toNat ≤ 10 := by rcases hprev with e | ⟨v, e, v1, _⟩ <;> omega
      split at ht
      · simp at ht
        subst ht
        unfold runItem
        split
        · refine ⟨by simp, by simp, ?_⟩
          show held - 3 < 128
          rcases hprev with e | ⟨v, e, v1, v2, v3⟩
          · have := hheld0 e; omega
          · have := v2 (by omega); omega
        · refine ⟨by simp, by simp, ?_⟩
          show held - 3 < 4
          rcases hprev with e | ⟨v, e, v1, v2, v3⟩
          · have := hheld0 e; omega
          · have := v3 (by omega); omega
      · have := List.eq_of_mem_replicate ht
        subst this
        exact ⟨by show prev.toNat ≤ 12; omega, by simp, by simp⟩
  have hdl := drain_len prev.toNat held
  by_cases hi : i < 273
  · rw [if_pos (by simp only [decide_eq_true_eq]; omega)]
    have hx10 := hle i hi
    refine join_ (ldS hu.rc rfl ?_)
    refine rdN hu.plan hi ?_
    rw [layS_plan]
    by_cases hsame : (s.plan i : Int) = prev
    · rw [if_neg (by simp only [bne_iff_ne, ne_eq]; omega)]
      rw [W_succ (by omega)]
      refine let_ (join_ ?_)
      obtain ⟨v, e, v1, v2, v3⟩ := hprev.resolve_left (by omega)
      have runs : ((prev = 0 ∧ held + 1 = 130) ∨ (prev ≠ 0 ∧ held + 1 = 6)) → (S.block_Packer_run (B + 28) prev ((held + 1 : Nat) : Int) lay u (fun r22 w =>
          Let (W ((((E.map itemC).sum : Nat) : Int) + r22)) fun sum_23 =>
          Let (W ((i : Int) + 1)) fun i_11 => Q (prev, 0, sum_23, i_11, ()) w)) := by
        intro hc
        have hv : prev.toNat = v := by omega
        refine block_run_spec (v := v) hu e (by omega) (fun hz => by omega) (fun hz => by omega) (fun e => by have := hbl e; omega) fun u2 h2 f2 => ?_
        have hri := runItem_ok (v := v) (held := held + 1) (by omega) (fun hz => by omega) (fun hz => by omega)
        rw [layS_lay, ← show (E ++ [runItem v (held + 1)]).flatMap itemB = E.flatMap itemB ++ itemB (runItem v (held + 1)) from by rw [List.flatMap_append]; simp] at h2
        rw [W_add (by omega), W_succ (by omega)]
        refine let_ (let_ (hQ (m - 1) _ _ (by omega) ⟨prev, 0, i + 1, E ++ [runItem v (held + 1)], ?_, by omega, ?_, fun t ht => ?_, h2, fu.trans f2⟩))
        · rw [List.map_append, List.sum_append]; simp
        · have := LI_run hLI hi hsame hc
          rw [hv] at this
          exact this
        · simp only [List.mem_append, List.mem_cons, List.not_mem_nil, or_false] at ht
          rcases ht with ht | ht
          · exact hok t ht
          · subst ht
            unfold runItem
            split
            · exact ⟨by simp, by simp, by show held + 1 - 3 < 128; omega⟩
            · exact ⟨by simp, by simp, by show held + 1 - 3 < 4; omega⟩
      have holds : (prev = 0 → held + 1 < 130) → (prev ≠ 0 → held + 1 < 6) → (Let (W ((i : Int) + 1)) fun i_11 => Q (prev, ((held + 1 : Nat) : Int), (((E.map itemC).sum : Nat) : Int), i_11, ()) u) := by
        intro c1 c2
        rw [W_succ (by omega)]
        exact let_ (hQ (m - 1) _ _ (by omega) ⟨prev, held + 1, i + 1, E, rfl, by omega, LI_hold hLI hsame c1 c2, hok, hu, fu⟩)
      have hlt : (prev = 0 → held < 130) ∧ (prev ≠ 0 → held < 6) := by
        obtain ⟨k, a, b, c⟩ := hLI
        rcases c with ⟨e1, e2⟩ | ⟨p1, p2, p3, p4, p5⟩
        · omega
        · exact ⟨fun hz => p4 (by omega), fun hz => (p5 (by omega)).1⟩
      by_cases hz : prev = 0
      · have := hlt.1 hz
        rw [if_pos (by simp only [beq_iff_eq]; omega)]
        by_cases h130 : held + 1 = 130
        · rw [if_pos (by simp only [beq_iff_eq]; omega)]
          exact runs (.inl ⟨hz, h130⟩)
        · rw [if_neg (by simp only [beq_iff_eq]; omega), if_neg (by simp only [bne_iff_ne, ne_eq]; omega)]
          exact holds (fun _ => by omega) (fun h => absurd hz h)
      · have := hlt.2 hz
        rw [if_neg (by simp only [beq_iff_eq]; omega), if_pos (by simp only [bne_iff_ne, ne_eq]; omega)]
        by_cases h6 : held + 1 = 6
        · rw [if_pos (by simp only [beq_iff_eq]; omega)]
          exact runs (.inr ⟨hz, h6⟩)
        · rw [if_neg (by simp only [beq_iff_eq]; omega)]
          exact holds (fun h => absurd h hz) (fun _ => by omega)
    · rw [if_pos (by simp only [bne_iff_ne, ne_eq]; omega)]
      refine drn fun u2 h2 f2 => ?_
      obtain ⟨k1, hk1⟩ := LI_drain hLI (by omega) fun _ => hsame
      have hsum2 : (((E.map itemC).sum : Nat) : Int) + ((((drainX prev.toNat held).map itemC).sum : Nat) : Int) = ((((E ++ drainX prev.toNat held).map itemC).sum : Nat) : Int) := by rw [List.map_append, List.sum_append]; omega
      have hs2 : ((E ++ drainX prev.toNat held).map itemC).sum ≤ 3014 := by rw [List.map_append, List.sum_append]; omega
      rw [hsum2, W_nat (by omega)]
      have hE2 := (ist_le s.plan k1)
      rw [hk1] at hE2
      generalize E ++ drainX prev.toNat held = E2 at *
      refine let_ ?_
      by_cases hz : s.plan i = 0
      · rw [if_pos (by simp only [beq_iff_eq]; omega), W_succ (by omega)]
        refine let_ (hQ (m - 1) _ _ (by omega) ⟨0, 1, i + 1, E2, by rw [hz]; rfl, by omega, LI_zero hk1 hz, hdok, h2, f2⟩)
      · rw [if_neg (by simp only [beq_iff_eq]; omega)]
        have hb2 : lay = true → (layS lay s (E2.flatMap itemB)).bits.length ≤ 4014 := by
          intro el
          have hl := hl el
          have h1 := layS_bits lay s (E2.flatMap itemB)
          have h2 : (E2.flatMap itemB).length ≤ 3003 := by
            rw [flat_sum]
            have := sum_le_c (fun t => (itemB t).length) 11 E2 fun t ht => by have := (hdok t ht).2.1; unfold itemB; simp; omega
            have := hE2.2.2
            dsimp only at this
            omega
          omega
        refine block_item_spec (x := s.plan i) (v := 0) (m := 0) h2 (by omega) (by omega) (by omega) (fun e => by have := hb2 e; omega) fun u3 h3 f3 => ?_
        rw [layS_lay, ← show (E2 ++ [((s.plan i, 0, 0) : Item)]).flatMap itemB = E2.flatMap itemB ++ itemB (s.plan i, 0, 0) from by rw [List.flatMap_append]; simp] at h3
        rw [show (itemC (s.plan i, 0, 0) : Int) = ((4 : Nat) : Int) from rfl, W_add (by omega), W_succ (by omega)]
        refine let_ (let_ (hQ (m - 1) _ _ (by omega) ⟨(s.plan i : Int), 0, i + 1, E2 ++ [(s.plan i, 0, 0)], ?_, by omega, LI_lit hk1 hi hz ?_, fun t ht => ?_, h3, f2.trans f3⟩))
        · rw [List.map_append, List.sum_append]; simp [itemC]
        · obtain ⟨k, a, b, c⟩ := hLI
          rcases c with ⟨e1, e2⟩ | ⟨p1, p2, p3, p4, p5⟩
          · exact .inl e1
          · exact .inr (by omega)
        · simp only [List.mem_append, List.mem_cons, List.not_mem_nil, or_false] at ht
          rcases ht with ht | ht
          · exact hdok t ht
          · subst ht; exact ⟨by show s.plan i ≤ 12; omega, by simp, by simp⟩
  · rw [if_neg (by simp only [decide_eq_true_eq]; omega)]
    have hie : i = 273 := by omega
    subst hie
    refine drn fun u2 h2 f2 => ?_
    obtain ⟨k1, hk1⟩ := LI_drain hLI (by omega) fun h => by omega
    have hit : itemsL s.plan = E ++ drainX prev.toNat held := by rw [items_eq (k := k1) (by rw [hk1]; exact Nat.le_refl _), hk1]
    rw [W_add (by omega)]
    have := hK u2 (by rw [listB, hit]; exact h2) f2
    rw [listC, hit, List.map_append, List.sum_append] at this
    exact this
end Go.Proofs.Qxb6500563aGreat
