/-
  A binary heap with a hole, plain.
-/
import Derived.Test.Qxb6500563aGreatTab
set_option linter.unusedVariables false
set_option linter.unusedSimpArgs false
namespace Go.Zip
/-- The order of the nodes. -/
def nl (w h u : Nat → Nat) (x y : Nat) : Prop := w x < w y ∨ (w x = w y ∧ (h x < h y ∨ (h x = h y ∧ u x < u y)))
def nlB (w h u : Nat → Nat) (x y : Nat) : Bool := if w x = w y then (if h x = h y then decide (u x < u y) else decide (h x < h y)) else decide (w x < w y)
theorem nlB_iff (w h u : Nat → Nat) (x y : Nat) : nlB w h u x y = true ↔ nl w h u x y := by
  unfold nlB nl
  split
  · split
    · simp only [decide_eq_true_eq]; omega
    · simp only [decide_eq_true_eq]; omega
  · simp only [decide_eq_true_eq]; omega
theorem nl_trans {w h u : Nat → Nat} {x y z : Nat} (h1 : ¬ nl w h u y x) (h2 : ¬ nl w h u z y) : ¬ nl w h u z x := by unfold nl at *; omega
theorem nl_asymm {w h u : Nat → Nat} {x y : Nat} (h1 : nl w h u x y) : ¬ nl w h u y x := by unfold nl at *; omega
theorem nl_irrefl {w h u : Nat → Nat} {x : Nat} : ¬ nl w h u x x := by unfold nl; omega
theorem nl_total {w h u : Nat → Nat} {x y : Nat} (h1 : ¬ nl w h u y x) (h2 : u x ≠ u y) : nl w h u x y := by unfold nl at *; omega

structure Rep (G : Nat → Nat) (f : Nat) (L : Nat → Prop) : Prop where
  mem : ∀ v, L v ↔ ∃ i, i < f ∧ G i = v
  inj : ∀ i j, i < f → j < f → G i = G j → i = j
structure Hp (w h u : Nat → Nat) (H : Nat → Nat) (f : Nat) (L : Nat → Prop) : Prop where
  rep : Rep H f L
  ord : ∀ j, 0 < j → j < f → ¬ nl w h u (H j) (H ((j - 1) / 2))
theorem Rep.swap {G G' : Nat → Nat} {f : Nat} {L : Nat → Prop} {i t : Nat} (r : Rep G f L) (hi : i < f) (ht : t < f) (h1 : G' i = G t) (h2 : G' t = G i) (h3 : ∀ x, x ≠ i → x ≠ t → G' x = G x) : Rep G' f L := by
  have key : ∀ x, x < f → ∃ y, y < f ∧ G' x = G y ∧ (x = i → y = t) ∧ (x = t → y = i) ∧ (x ≠ i → x ≠ t → y = x) := fun x hx => by
    by_cases a : x = i
    · subst a
      by_cases b : x = t
      · subst b; exact ⟨x, hx, h1, fun _ => rfl, fun _ => rfl, fun _ _ => rfl⟩
      · exact ⟨t, ht, h1, fun _ => rfl, fun e => absurd e b, fun e => absurd rfl e⟩
    · by_cases b : x = t
      · subst b; exact ⟨i, hi, h2, fun e => absurd e a, fun _ => rfl, fun _ e => absurd rfl e⟩
      · exact ⟨x, hx, h3 x a b, fun e => absurd e a, fun e => absurd e b, fun _ _ => rfl⟩
  refine ⟨fun v => ?_, fun x y hx hy e => ?_⟩
  · rw [r.mem v]
    constructor
    · rintro ⟨x, hx, rfl⟩
      by_cases a : x = i
      · subst a; exact ⟨t, ht, h2⟩
      · by_cases b : x = t
        · subst b; exact ⟨i, hi, h1⟩
        · exact ⟨x, hx, h3 x a b⟩
    · rintro ⟨x, hx, rfl⟩
      obtain ⟨y, hy, e, _⟩ := key x hx
      exact ⟨y, hy, e.symm⟩
  · obtain ⟨x', hx', ex, x1, x2, x3⟩ := key x hx
    obtain ⟨y', hy', ey, y1, y2, y3⟩ := key y hy
    have := r.inj x' y' hx' hy' (by rw [← ex, ← ey, e])
    by_cases a : x = i
    · have := x1 a
      by_cases b : y = i
      · omega
      · by_cases c : y = t
        · have := y2 c; omega
        · have := y3 b c; omega
    · by_cases a' : x = t
      · have := x2 a'
        by_cases b : y = i
        · have := y1 b; omega
        · by_cases c : y = t
          · omega
          · have := y3 b c; omega
      · have := x3 a a'
        by_cases b : y = i
        · have := y1 b; omega
        · by_cases c : y = t
          · have := y2 c; omega
          · have := y3 b c; omega

/-- A node rises: it stands, in thought, at the hole i. -/
structure Up (w h u : Nat → Nat) (H : Nat → Nat) (f x i : Nat) (L : Nat → Prop) : Prop where
  le : i ≤ f
  rep : Rep (fset H i x) (f + 1) (fun v => v = x ∨ L v)
  ord : ∀ j, 0 < j → j < f + 1 → j ≠ i → ¬ nl w h u (fset H i x j) (fset H i x ((j - 1) / 2))
  gc : 0 < i → ∀ j, 0 < j → j < f + 1 → (j - 1) / 2 = i → ¬ nl w h u (H j) (H ((i - 1) / 2))
theorem up_init {w h u : Nat → Nat} {H : Nat → Nat} {f x : Nat} {L : Nat → Prop} (hp : Hp w h u H f L) (hx : ¬ L x) : Up w h u H f x f L := by
  have hne : ∀ t, t < f → fset H f x t = H t := fun t ht => fset_ne (by omega)
  refine ⟨Nat.le_refl _, ⟨fun v => ?_, fun i j hi hj e => ?_⟩, fun j hj hjf hjn => ?_, fun hf j hj hjf he => by omega⟩
  · constructor
    · rintro (rfl | hv)
      · exact ⟨f, by omega, fset_eq ..⟩
      · obtain ⟨i, hi, rfl⟩ := (hp.rep.mem v).1 hv
        exact ⟨i, by omega, hne i hi⟩
    · rintro ⟨i, hi, rfl⟩
      by_cases hif : i = f
      · subst hif; exact .inl (fset_eq ..)
      · rw [hne i (by omega)]; exact .inr ((hp.rep.mem _).2 ⟨i, by omega, rfl⟩)
  · by_cases hif : i = f
    · by_cases hjf : j = f
      · omega
      · subst hif
        rw [fset_eq, hne j (by omega)] at e
        exact absurd ((hp.rep.mem _).2 ⟨j, by omega, e.symm⟩) hx
    · by_cases hjf : j = f
      · subst hjf
        rw [fset_eq, hne i (by omega)] at e
        exact absurd ((hp.rep.mem _).2 ⟨i, by omega, e⟩) hx
      · rw [hne i (by omega), hne j (by omega)] at e
        exact hp.rep.inj i j (by omega) (by omega) e
  · rw [hne j (by omega), hne _ (by omega)]
    exact hp.ord j hj (by omega)
theorem up_step' {w h u : Nat → Nat} {H : Nat → Nat} {f x i : Nat} {L : Nat → Prop} (s : Up w h u H f x i L) (hi : 0 < i) (hlt : nl w h u x (H ((i - 1) / 2))) : Up w h u (fset H i (H ((i - 1) / 2))) f x ((i - 1) / 2) L := by
  have hle := s.le
  have ht : (i - 1) / 2 < i := by omega
  generalize htt : (i - 1) / 2 = t at *
  have g1 : ∀ y, y ≠ i → fset H i x y = H y := fun y hy => fset_ne hy
  have k1 : fset (fset H i (H t)) t x t = x := fset_eq ..
  have k2 : fset (fset H i (H t)) t x i = H t := by rw [fset_ne (by omega), fset_eq]
  have k3 : ∀ y, y ≠ i → y ≠ t → fset (fset H i (H t)) t x y = H y := fun y h1 h2 => by rw [fset_ne h2, fset_ne h1]
  refine ⟨by omega, ?_, fun j hj hjf hjn => ?_, fun hi' j hj hjf he => ?_⟩
  · refine s.rep.swap (i := i) (t := t) (by omega) (by omega) ?_ ?_ fun y h1 h2 => ?_
    · rw [k2, g1 t (by omega)]
    · rw [k1, fset_eq]
    · rw [k3 y h1 h2, g1 y h1]
  · by_cases hji : j = i
    · subst hji
      rw [k2, htt, k1]
      exact nl_asymm hlt
    · rw [k3 j hji hjn]
      have o := s.ord j hj hjf hji
      rw [g1 j hji] at o
      by_cases hpi : (j - 1) / 2 = i
      · rw [hpi, k2]
        have := s.gc hi j hj hjf hpi
        rw [htt] at this
        exact this
      · rw [g1 _ hpi] at o
        by_cases hpt : (j - 1) / 2 = t
        · rw [hpt, k1]
          rw [hpt] at o
          exact nl_trans (nl_asymm hlt) o
        · rw [k3 _ hpi hpt]; exact o
  · have e2 : fset H i (H t) ((t - 1) / 2) = H ((t - 1) / 2) := fset_ne (by omega)
    rw [e2]
    have ot := s.ord t hi' (by omega) (by omega)
    rw [g1 t (by omega), g1 _ (by omega)] at ot
    by_cases hji : j = i
    · subst hji; rw [fset_eq]; exact ot
    · rw [fset_ne hji]
      have o := s.ord j hj hjf hji
      rw [g1 j hji, he, g1 t (by omega)] at o
      exact nl_trans ot o
theorem up_fin {w h u : Nat → Nat} {H : Nat → Nat} {f x i : Nat} {L : Nat → Prop} (s : Up w h u H f x i L) (hi : i = 0 ∨ ¬ nl w h u x (H ((i - 1) / 2))) : Hp w h u (fset H i x) (f + 1) (fun v => v = x ∨ L v) := by
  refine ⟨s.rep, fun j hj hjf => ?_⟩
  by_cases hji : j = i
  · subst hji
    rw [fset_eq, fset_ne (by omega)]
    rcases hi with h | h
    · omega
    · exact h
  · exact s.ord j hj hjf hji

/-- The first node is the least. -/
theorem Hp.least {w h u : Nat → Nat} {H : Nat → Nat} {f : Nat} {L : Nat → Prop} (hp : Hp w h u H f L) : ∀ i, i < f → ¬ nl w h u (H i) (H 0) := by
  intro i
  induction i using Nat.strongRecOn with
  | ind i ih =>
    intro hi
    rcases Nat.eq_zero_or_pos i with h0 | h0
    · subst h0; exact nl_irrefl
    · exact nl_trans (ih ((i - 1) / 2) (by omega) (by omega)) (hp.ord i h0 hi)

/-- A node sinks. -/
structure Dn (w h u : Nat → Nat) (H : Nat → Nat) (f x i : Nat) (L : Nat → Prop) : Prop where
  lt : i < f
  rep : Rep (fset H i x) f L
  ord : ∀ j, 0 < j → j < f → (j - 1) / 2 ≠ i → ¬ nl w h u (fset H i x j) (fset H i x ((j - 1) / 2))
  gc : 0 < i → ∀ j, 0 < j → j < f → (j - 1) / 2 = i → ¬ nl w h u (H j) (H ((i - 1) / 2))
theorem dn_init {w h u : Nat → Nat} {H : Nat → Nat} {f : Nat} {L : Nat → Prop} (hp : Hp w h u H (f + 1) L) (hf : 0 < f) : Dn w h u H f (H f) 0 (fun v => L v ∧ v ≠ H 0) := by
  have hne : ∀ t, t ≠ 0 → fset H 0 (H f) t = H t := fun t ht => fset_ne ht
  refine ⟨hf, ⟨fun v => ?_, fun i j hi hj e => ?_⟩, fun j hj hjf hjn => ?_, fun h => by omega⟩
  · constructor
    · rintro ⟨hv, hv0⟩
      obtain ⟨i, hi, rfl⟩ := (hp.rep.mem v).1 hv
      by_cases hif : i = f
      · subst hif; exact ⟨0, hf, fset_eq ..⟩
      · have : i ≠ 0 := fun e => hv0 (by rw [e])
        exact ⟨i, by omega, hne i this⟩
    · rintro ⟨i, hi, rfl⟩
      by_cases hi0 : i = 0
      · subst hi0
        rw [fset_eq]
        exact ⟨(hp.rep.mem _).2 ⟨f, by omega, rfl⟩, fun e => by have := hp.rep.inj f 0 (by omega) (by omega) e; omega⟩
      · rw [hne i hi0]
        exact ⟨(hp.rep.mem _).2 ⟨i, by omega, rfl⟩, fun e => by have := hp.rep.inj i 0 (by omega) (by omega) e; omega⟩
  · by_cases hi0 : i = 0
    · by_cases hj0 : j = 0
      · omega
      · subst hi0
        rw [fset_eq, hne j hj0] at e
        have := hp.rep.inj f j (by omega) (by omega) e; omega
    · by_cases hj0 : j = 0
      · subst hj0
        rw [fset_eq, hne i hi0] at e
        have := hp.rep.inj i f (by omega) (by omega) e; omega
      · rw [hne i hi0, hne j hj0] at e
        exact hp.rep.inj i j (by omega) (by omega) e
  · rw [hne j (by omega), hne _ hjn]
    exact hp.ord j hj (by omega)
theorem dn_step' {w h u : Nat → Nat} {H : Nat → Nat} {f x i k : Nat} {L : Nat → Prop} (s : Dn w h u H f x i L) (hk : k = 2 * i + 1 ∨ k = 2 * i + 2) (hkf : k < f) (hmin : ∀ j, j < f → j = 2 * i + 1 ∨ j = 2 * i + 2 → ¬ nl w h u (H j) (H k))
    (hlt : nl w h u (H k) x) : Dn w h u (fset H i (H k)) f x k L := by
  have hil := s.lt
  have g1 : ∀ y, y ≠ i → fset H i x y = H y := fun y hy => fset_ne hy
  have k1 : fset (fset H i (H k)) k x k = x := fset_eq ..
  have k2 : fset (fset H i (H k)) k x i = H k := by rw [fset_ne (by omega), fset_eq]
  have k3 : ∀ y, y ≠ i → y ≠ k → fset (fset H i (H k)) k x y = H y := fun y h1 h2 => by rw [fset_ne h2, fset_ne h1]
  refine ⟨hkf, ?_, fun j hj hjf hjn => ?_, fun hk' j hj hjf he => ?_⟩
  · refine s.rep.swap (i := i) (t := k) (by omega) (by omega) ?_ ?_ fun y h1 h2 => ?_
    · rw [k2, g1 k (by omega)]
    · rw [k1, fset_eq]
    · rw [k3 y h1 h2, g1 y h1]
  · by_cases hjk : j = k
    · subst hjk
      rw [k1, show (j - 1) / 2 = i from by omega, k2]
      exact nl_asymm hlt
    · by_cases hji : j = i
      · subst hji
        rw [k2, k3 _ (by omega) (by omega)]
        exact s.gc hj k (by omega) hkf (by omega)
      · rw [k3 j hji hjk]
        by_cases hpi : (j - 1) / 2 = i
        · rw [hpi, k2]
          exact hmin j hjf (by omega)
        · rw [k3 _ hpi hjn]
          have o := s.ord j hj hjf hpi
          rw [g1 j hji, g1 _ hpi] at o
          exact o
  · rw [show (k - 1) / 2 = i from by omega, fset_eq, fset_ne (by omega)]
    have o := s.ord j hj hjf (by omega)
    rw [g1 j (by omega), he, g1 k (by omega)] at o
    exact o
theorem dn_fin {w h u : Nat → Nat} {H : Nat → Nat} {f x i : Nat} {L : Nat → Prop} (s : Dn w h u H f x i L) (hmin : ∀ j, j < f → j = 2 * i + 1 ∨ j = 2 * i + 2 → ¬ nl w h u (H j) x) : Hp w h u (fset H i x) f L := by
  refine ⟨s.rep, fun j hj hjf => ?_⟩
  by_cases hpi : (j - 1) / 2 = i
  · rw [hpi, fset_eq, fset_ne (by omega)]
    exact hmin j hjf (by omega)
  · exact s.ord j hj hjf hpi
end Go.Zip
