/-
  The real tree: the forest of nodes against the groups.
-/
import Derived.Test.Qxb6500563aGreatHufT
namespace Go.Zip
set_option linter.unusedVariables false
set_option linter.unusedSimpArgs false
theorem Hp.congr {w h u w' h' u' H : Nat → Nat} {f : Nat} {L : Nat → Prop} (hp : Hp w h u H f L) (e : ∀ x, L x → w' x = w x ∧ h' x = h x ∧ u' x = u x) : Hp w' h' u' H f L := by
  refine ⟨hp.rep, fun j hj hjf => ?_⟩
  have h1 := e (H j) ((hp.rep.mem _).2 ⟨j, hjf, rfl⟩)
  have h2 := e (H ((j - 1) / 2)) ((hp.rep.mem _).2 ⟨(j - 1) / 2, by omega, rfl⟩)
  have := hp.ord j hj hjf
  unfold nl at this ⊢
  rw [h1.1, h1.2.1, h1.2.2, h2.1, h2.2.1, h2.2.2]
  exact this
/-- The living nodes against the living groups; the leaves' way up. -/
structure Forest (n : Nat) (c : Nat → Nat) (lv m : Nat) (wt ht num par : Nat → Nat) (L : Nat → Prop) (st : HS) : Prop where
  lt : ∀ x, L x → x < m
  key : ∀ x, L x → num x < n ∧ wt x = st.wt (num x) ∧ ht x = st.ht (num x) ∧ 0 < st.wt (num x)
  inj : ∀ x y, L x → L y → num x = num y → x = y
  onto : ∀ g, g < n → 0 < st.wt g → ∃ x, L x ∧ num x = g
  leaf : ∀ x, x < lv → num x < n ∧ 0 < c (num x)
  leafInj : ∀ x y, x < lv → y < lv → num x = num y → x = y
  leafOnto : ∀ i, i < n → 0 < c i → ∃ x, x < lv ∧ num x = i
  parLt : ∀ y, y < m → ¬ L y → y < par y ∧ par y < m
  up : ∀ D : Nat → Nat, (∀ y, y < m → ¬ L y → D y = D (par y) + 1) → ∀ x, x < lv → ∃ y, L y ∧ num y = st.grp (num x) ∧ D x = st.lens (num x) + D y
theorem forest_join {n : Nat} {c : Nat → Nat} {lv m k : Nat} {wt ht num par : Nat → Nat} {L : Nat → Prop} {st : HS} {a b : Nat} (F : Forest n c lv m wt ht num par L st) (hlv : lv ≤ m) (hi : HInv n c k st) (h2 : 2 ≤ usedN n st.wt)
    (ha : L a) (hb : L b) (hab : b ≠ a) (amin : ∀ v, L v → ¬ nl wt ht num v a) (bmin : ∀ v, L v → v ≠ a → ¬ nl wt ht num v b) :
    HInv n c (k + 1) (joinS n c st) ∧ wt a + wt b ≤ sumTo n c ∧
    Forest n c lv (m + 1) (fset wt m (wt a + wt b)) (fset ht m (max (ht a) (ht b) + 1)) (fset num m (num a)) (fset (fset par a m) b m) (fun v => v = m ∨ (L v ∧ v ≠ a ∧ v ≠ b)) (joinS n c st) := by
  obtain ⟨a', b', ea, eb, ej, a1, b1, hab', a2, b2, hi'⟩ := hinv_step hi h2
  obtain ⟨ka1, ka2, ka3, ka4⟩ := F.key a ha
  obtain ⟨kb1, kb2, kb3, kb4⟩ := F.key b hb
  have hnab : num b ≠ num a := fun e => hab (F.inj b a hb ha e)
  have toKl : ∀ x y, L x → L y → num x ≠ num y → ¬ nl wt ht num y x → kl st.wt st.ht (num x) (num y) := fun x y hx hy hne hn => by
    have h1 := nl_total hn hne
    obtain ⟨_, x2, x3, _⟩ := F.key x hx
    obtain ⟨_, y2, y3, _⟩ := F.key y hy
    unfold nl at h1
    unfold kl
    rw [← x2, ← x3, ← y2, ← y3]
    exact h1
  have e1 : leastTo st.wt st.ht (fun _ => true) n = some (num a) := leastTo_uniq ka1 ka4 rfl fun g hg hw _ hne => by
    obtain ⟨x, hx, rfl⟩ := F.onto g hg hw
    exact toKl a x ha hx (fun e => hne e.symm) (amin x hx)
  rw [ea] at e1
  have e1 := Option.some.inj e1
  subst e1
  have e2 : leastTo st.wt st.ht (fun g => g != num a) n = some (num b) := leastTo_uniq kb1 kb4 (by simpa using hnab) fun g hg hw hp hne => by
    obtain ⟨x, hx, rfl⟩ := F.onto g hg hw
    have hxa : x ≠ a := fun e => by subst e; simp at hp
    exact toKl b x hb hx (fun e => hne e.symm) (bmin x hx hxa)
  rw [eb] at e2
  have e2 := Option.some.inj e2
  subst e2
  have ham := F.lt a ha
  have hbm := F.lt b hb
  have hlm : ∀ x, L x → x ≠ m := fun x hx => by have := F.lt x hx; omega
  rw [ej]
  refine ⟨hi', ?_, ?_⟩
  · have hs := hi.sum
    have h3 := sumTo_set st.wt (num a) 0 a1
    have h4 := sumTo_pos (f := fset st.wt (num a) 0) b1
    rw [fset_ne hnab] at h4
    rw [ka2, kb2]
    omega
  · refine ⟨fun x hx => ?_, fun x hx => ?_, fun x y hx hy e => ?_, fun g hg hw => ?_, fun x hx => ?_, fun x y hx hy e => ?_, fun i hi2 hc => ?_, fun y hy hny => ?_, fun D hD x hx => ?_⟩
    · rcases hx with rfl | ⟨hx, _⟩
      · omega
      · have := F.lt x hx; omega
    · rcases hx with rfl | ⟨hx, hxa, hxb⟩
      · rw [fset_eq, fset_eq, fset_eq]
        simp only [joinAB]
        rw [fset_ne (fun e => hnab e.symm), fset_eq, fset_eq, ka2, kb2, ka3, kb3]
        exact ⟨ka1, rfl, rfl, by omega⟩
      · rw [fset_ne (hlm x hx), fset_ne (hlm x hx), fset_ne (hlm x hx)]
        obtain ⟨k1, k2, k3, k4⟩ := F.key x hx
        have na : num x ≠ num a := fun e => hxa (F.inj x a hx ha e)
        have nb : num x ≠ num b := fun e => hxb (F.inj x b hx hb e)
        simp only [joinAB]
        rw [fset_ne nb, fset_ne na, fset_ne na]
        exact ⟨k1, k2, k3, k4⟩
    · rcases hx with rfl | ⟨hx, hxa, hxb⟩
      · rcases hy with rfl | ⟨hy, hya, hyb⟩
        · rfl
        · rw [fset_eq, fset_ne (hlm y hy)] at e
          exact absurd (F.inj y a hy ha e.symm) hya
      · rcases hy with rfl | ⟨hy, hya, hyb⟩
        · rw [fset_eq, fset_ne (hlm x hx)] at e
          exact absurd (F.inj x a hx ha e) hxa
        · rw [fset_ne (hlm x hx), fset_ne (hlm y hy)] at e
          exact F.inj x y hx hy e
    · simp only [joinAB] at hw
      by_cases hgb : g = num b
      · subst hgb; rw [fset_eq] at hw; omega
      · by_cases hga : g = num a
        · exact ⟨m, .inl rfl, by rw [fset_eq, hga]⟩
        · rw [fset_ne hgb, fset_ne hga] at hw
          obtain ⟨x, hx, rfl⟩ := F.onto g hg hw
          exact ⟨x, .inr ⟨hx, fun e => hga (by rw [e]), fun e => hgb (by rw [e])⟩, fset_ne (hlm x hx)⟩
    · rw [fset_ne (by omega)]; exact F.leaf x hx
    · rw [fset_ne (by omega), fset_ne (by omega)] at e; exact F.leafInj x y hx hy e
    · obtain ⟨x, hx, e⟩ := F.leafOnto i hi2 hc
      exact ⟨x, hx, by rw [fset_ne (by omega)]; exact e⟩
    · have hym : y ≠ m := fun e => hny (.inl e)
      by_cases hyb : y = b
      · subst hyb; rw [fset_eq]; omega
      · rw [fset_ne hyb]
        by_cases hya : y = a
        · subst hya; rw [fset_eq]; omega
        · rw [fset_ne hya]
          have := F.parLt y (by omega) (fun hl => hny (.inr ⟨hl, hya, hyb⟩))
          omega
    · have hD' : ∀ y, y < m → ¬ L y → D y = D (par y) + 1 := fun y hy hl => by
        have hya : y ≠ a := fun e => hl (by rw [e]; exact ha)
        have hyb : y ≠ b := fun e => hl (by rw [e]; exact hb)
        have := hD y (by omega) (fun h => h.elim (fun e => by omega) (fun h => hl h.1))
        rw [fset_ne hyb, fset_ne hya] at this
        exact this
      have hDa : D a = D m + 1 := by
        have := hD a (by omega) (fun h => h.elim (fun e => by omega) (fun h => h.2.1 rfl))
        rw [fset_ne (fun e => hab e.symm), fset_eq] at this
        exact this
      have hDb : D b = D m + 1 := by
        have := hD b (by omega) (fun h => h.elim (fun e => by omega) (fun h => h.2.2 rfl))
        rw [fset_eq] at this
        exact this
      obtain ⟨y, hy, ey, ed⟩ := F.up D hD' x hx
      have hcx := (F.leaf x hx).2
      rw [fset_ne (by omega : x ≠ m)]
      by_cases hya : y = a
      · subst hya
        have hin : inAB c st (num y) (num b) (num x) = true := by simp [inAB, hcx, ← ey]
        exact ⟨m, .inl rfl, by rw [fset_eq]; simp [joinAB, hin], by simp only [joinAB, hin, if_true]; omega⟩
      · by_cases hyb : y = b
        · subst hyb
          have hin : inAB c st (num a) (num y) (num x) = true := by simp [inAB, hcx, ← ey]
          exact ⟨m, .inl rfl, by rw [fset_eq]; simp [joinAB, hin], by simp only [joinAB, hin, if_true]; omega⟩
        · have hin : inAB c st (num a) (num b) (num x) = false := by
            simp only [inAB, ← ey, hcx, decide_true, Bool.true_and, Bool.or_eq_false_iff, beq_eq_false_iff_ne, ne_eq]
            exact ⟨fun e => hya (F.inj y a hy ha e), fun e => hyb (F.inj y b hy hb e)⟩
          exact ⟨y, .inr ⟨hy, hya, hyb⟩, by rw [fset_ne (hlm y hy)]; simp only [joinAB, hin]; exact ey, by simp only [joinAB, hin]; exact ed⟩
end Go.Zip
