/-
  The tables answer as the list does, plain.
-/
import Derived.Test.Qxb6500563aGreatCodT
set_option linter.unusedVariables false
set_option linter.unusedSimpArgs false
namespace Go.Zip
open Go.Proofs.Qxb6500563aGreat
theorem one_used {n : Nat} {l : Nat → Nat} {s : Nat} (h : usedN n l = 1) (hs : s < n) (h0 : 0 < l s) : ∀ t, t < n → t ≠ s → l t = 0 := fun t ht hne => by
  rcases Nat.eq_zero_or_pos (l t) with hz | hz
  · exact hz
  · exfalso
    have h3 := sumTo_set (fun i => if decide (0 < l i) = true then 1 else 0) s 0 hs
    have h4 := sumTo_pos (f := fset (fun i => if decide (0 < l i) = true then 1 else 0) s 0) ht
    rw [fset_ne hne] at h4
    simp only [h0, hz, decide_true, if_true] at h3 h4
    have h1' : sumTo n (fun i => if decide (0 < l i) = true then 1 else 0) = 1 := h
    omega
set_option maxRecDepth 10000 in
theorem find_tabs {n : Nat} {l : Nat → Nat} {root : Nat → Int} {sub : Nat → Nat} {a hv : Nat} (L : Lens n l) (hc : checkE n l = 0) (T : Tabs n l root sub) (ha : a < 2 ^ hv) :
    findR n l a hv = if cellAt root sub a = 0 then (0, 0, 8) else if hv < cellAt root sub a % 16 then (0, 0, 4) else (cellAt root sub a / 16, cellAt root sub a % 16, 0) := by
  have hitH : ∀ t, hitB n l a hv t = true → Heads n l a t ∧ l t ≤ hv := fun t h => by
    simp only [hitB, Bool.and_eq_true, decide_eq_true_eq, beq_iff_eq] at h
    exact ⟨⟨h.1.1, h.2⟩, h.1.2⟩
  by_cases hz : cellAt root sub a = 0
  · rw [if_pos hz]
    have no : ∀ s, s < n → ¬ Heads n l a s := fun s hs hh => by
      have := T.hit a s hs hh
      have := hh.1
      omega
    have h1 : hitTo n l a hv n = none := by
      cases e : hitTo n l a hv n with
      | none => rfl
      | some t =>
        have := hitTo_some e
        exact absurd (hitH t this.2).1 (no t this.1)
    have h2 : openTo n l a hv n = false := by
      cases e : openTo n l a hv n with
      | false => rfl
      | true =>
        exfalso
        obtain ⟨s, hs, ho⟩ := (openTo_iff n).1 e
        simp only [openB, Bool.and_eq_true, decide_eq_true_eq, beq_iff_eq] at ho
        have hkr : kr n l ≠ 1024 := fun x => by
          obtain ⟨t, ht, hh⟩ := heads_ex L x a
          exact no t ht hh
        have hk := L.kr
        have hu : 0 < usedN n l := by
          have := sumTo_pos (f := fun i => if decide (0 < l i) = true then 1 else 0) hs
          have h0 : 0 < l s := by omega
          simp only [h0, decide_true, if_true] at this
          exact this
        have hdeg : usedN n l = 1 ∧ kr n l = 512 := by
          unfold checkE at hc
          rw [if_neg (by omega)] at hc
          by_cases hh : kr n l < 1024 ∧ 0 < usedN n l ∧ (1 < usedN n l ∨ kr n l ≠ 512)
          · rw [if_pos hh] at hc; omega
          · omega
        have hone := one_used hdeg.1 hs (by omega)
        have hkrs : kr n l = unit (l s) := by
          have h3 := sumTo_set (fun i => unit (l i)) s 0 hs
          have h4 : sumTo n (fset (fun i => unit (l i)) s 0) = 0 := sumTo_zero fun i hi => by
            unfold fset; split
            · rfl
            · rename_i hne; show unit (l i) = 0; rw [hone i hi hne]; rfl
          unfold kr; omega
        have hl1 : l s = 1 := by
          have h10 := L.le s hs
          rw [hdeg.2] at hkrs
          rcases Nat.lt_or_ge 1 (l s) with h' | h'
          · have h5 := unit_succ (x := 1) (by omega) (by omega)
            have h6 : unit (l s) ≤ 256 := by
              unfold unit
              rw [if_pos (by omega)]
              exact show 2 ^ (10 - l s) ≤ 2 ^ 8 from Nat.pow_le_pow_right (by omega) (by omega)
            omega
          · omega
        have hv0 : hv = 0 := by omega
        subst hv0
        have ha0 : a = 0 := by simpa using ha
        subst ha0
        have hr : rank l s = 0 := by
          unfold rank cntTo
          refine sumTo_zero fun i hi => ?_
          simp [hone i (by omega) (by omega), hl1]
        have hnum : numOf n l s = 0 := by unfold numOf; rw [hr, hl1]; rfl
        refine no s hs ⟨by omega, ?_⟩
        unfold codeOf
        rw [hnum, hl1]
        rfl
    unfold findR
    rw [h1]
    simp only [h2]
    rfl
  · rw [if_neg hz]
    obtain ⟨s, hs, hh⟩ := T.pos a (by omega)
    have hcell := T.hit a s hs hh
    have h10 := L.le s hs
    have hm : cellAt root sub a % 16 = l s := by omega
    have hd : cellAt root sub a / 16 = s := by omega
    rw [hm, hd]
    by_cases hle : hv < l s
    · rw [if_pos hle]
      have h1 : hitTo n l a hv n = none := by
        cases e : hitTo n l a hv n with
        | none => rfl
        | some t =>
          have g := hitTo_some e
          obtain ⟨g1, g2⟩ := hitH t g.2
          have := heads_uniq L hs g.1 hh g1
          subst this; omega
      have h2 : openTo n l a hv n = true := by
        refine (openTo_iff n).2 ⟨s, hs, ?_⟩
        have hlt : a < 2 ^ l s := Nat.lt_of_lt_of_le ha (Nat.pow_le_pow_right (by omega) (by omega))
        have hcode := hh.2
        rw [Nat.mod_eq_of_lt hlt] at hcode
        simp only [openB, Bool.and_eq_true, decide_eq_true_eq, beq_iff_eq]
        exact ⟨hle, by rw [← hcode, Nat.mod_eq_of_lt ha]⟩
      unfold findR
      rw [h1]
      simp only [h2, if_true]
    · rw [if_neg hle]
      have hb : hitB n l a hv s = true := by
        simp only [hitB, Bool.and_eq_true, decide_eq_true_eq, beq_iff_eq]
        exact ⟨⟨hh.1, by omega⟩, hh.2⟩
      unfold findR
      cases e : hitTo n l a hv n with
      | none => have := hitTo_none e s hs; rw [this] at hb; cases hb
      | some t =>
        have g := hitTo_some e
        have := heads_uniq L g.1 hs (hitH t g.2).1 hh
        subst this
        rfl
end Go.Zip
