/-
  The model's lexer: Lex.
-/
import Derived.Test.Qxb6500562aGreatLexM
namespace Go.Proofs.Qxb6500562aGreat
open Go.Den Go.Zip
set_option linter.unusedVariables false
set_option linter.unusedSimpArgs false
variable {w w' : World} {l g n : Nat} {ts : List Tok} {r : List Nat} {i c k : Nat} {s : ByteArray}

theorem tokB_inj : ∀ a, a < 40 → ∀ b, b < 40 → 3 ≤ a → 3 ≤ b → tokB a = tokB b → a = b := by decide
theorem kw_of : ∀ k, k < 17 → 3 ≤ k → kwP (tokB k) = k := by decide
theorem kwP_or (l : List Nat) : kwP l = 1 ∨ (3 ≤ kwP l ∧ kwP l < 17 ∧ tokB (kwP l) = l) := by
  unfold kwP
  split
  · rename_i h
    right
    refine ⟨?_, ?_, h.2.symm⟩ <;> (have := h.1; revert this; unfold guessP; repeat' split) <;> omega
  · left; rfl
theorem twin_spell : ∀ k, k < 40 → 17 ≤ k → (tokB k).length = 2 → twinP ((tokB k).getD 0 0) ((tokB k).getD 1 0) = k := by decide
theorem single_spell : ∀ k, k < 40 → 17 ≤ k → (tokB k).length = 1 → singleP ((tokB k).getD 0 0) = k := by decide
theorem sign_len : ∀ k, k < 40 → 17 ≤ k → (tokB k).length = 1 ∨ (tokB k).length = 2 := by decide
theorem twin_is (a b : Nat) (h : twinP a b ≠ 0) : 17 ≤ twinP a b ∧ twinP a b < 40 ∧ tokB (twinP a b) = [a, b] := by
  revert h
  unfold twinP
  repeat' split
  all_goals intro h
  all_goals first | (exact absurd rfl h) | (subst_vars; decide)
theorem single_lo : ∀ a, a < 126 → singleP a ≠ 0 → 17 ≤ singleP a ∧ singleP a < 40 ∧ tokB (singleP a) = [a] := by decide
theorem single_is (a : Nat) (h : singleP a ≠ 0) : 17 ≤ singleP a ∧ singleP a < 40 ∧ tokB (singleP a) = [a] := by
  rcases Nat.lt_or_ge a 126 with ha | ha
  · exact single_lo a ha h
  · exfalso
    apply h
    unfold singleP
    repeat rw [if_neg (by omega)]
theorem kw_letters : ∀ k, k < 17 → 3 ≤ k → (tokB k).all isL = true := by decide
theorem take2 (hi : i + 1 < r.length) : (r.drop i).take 2 = [r.getD i 0, r.getD (i + 1) 0] := by
  have h1 := getD_get (r := r) (i := i) (by omega)
  have h2 := getD_get (r := r) (i := i + 1) hi
  rw [List.drop_eq_getElem_cons (by omega : i < r.length), List.drop_eq_getElem_cons hi]
  rw [List.getElem?_eq_getElem (by omega : i < r.length)] at h1
  rw [List.getElem?_eq_getElem hi] at h2
  simp only [List.take_succ_cons, List.take_zero, Option.some.inj h1, Option.some.inj h2]
theorem take1 (hi : i < r.length) : (r.drop i).take 1 = [r.getD i 0] := by
  have h1 := getD_get (r := r) (i := i) (by omega)
  rw [List.drop_eq_getElem_cons (by omega : i < r.length)]
  rw [List.getElem?_eq_getElem (by omega : i < r.length)] at h1
  simp only [List.take_succ_cons, List.take_zero, Option.some.inj h1]
/-- The keyword at a word. -/
theorem fx_word {kind m : Nat} (hi : i < r.length) (hrun : IsRun (fun m => isW (r.getD (i + m) 0)) (r.length - i) n) (h0 : 0 < n) (h : FX r i 3 17 kind m) :
    (m = n ∧ kwP ((r.drop i).take n) = kind ∧ kind ≠ 1) ∨ (m ≠ n ∧ kwP ((r.drop i).take n) = 1) := by
  obtain ⟨r1, r2, r3⟩ := hrun
  have hlen : ((r.drop i).take n).length = n := by rw [List.length_take, List.length_drop]; omega
  have le : ∀ k, 3 ≤ k → k < 17 → Mt r i k → (tokB k).length ≤ n := by
    intro k k1 k2 hm
    rcases Nat.lt_or_ge n (tokB k).length with hlt | hge
    · exfalso
      unfold Mt at hm
      have hl := congrArg List.length hm
      rw [List.length_take, List.length_drop] at hl
      have hin : n < r.length - i := by omega
      have hf := r3 hin
      have hL := List.all_eq_true.1 (kw_letters k k2 k1)
      have hget : (tokB k)[n]? = some (r.getD (i + n) 0) := by
        rw [← hm, List.getElem?_take, if_pos hlt, List.getElem?_drop, getD_get (by omega)]
      have := hL _ (List.mem_of_getElem? hget)
      dsimp only at hf
      rw [isW, this] at hf
      cases hf
    · exact hge
  rcases kwP_or ((r.drop i).take n) with hk | ⟨k1, k2, k3⟩
  · right
    refine ⟨?_, hk⟩
    rintro rfl
    rcases h with ⟨h1, h2, _⟩ | ⟨h1, h2, h3, h4, _⟩
    · omega
    · unfold Mt at h3
      rw [← h4] at h3
      rw [h3, kw_of kind h2 h1] at hk
      omega
  · left
    have hmt : Mt r i (kwP ((r.drop i).take n)) := by
      unfold Mt
      rw [k3, hlen]
    rcases h with ⟨h1, h2, h3⟩ | ⟨h1, h2, h3, h4, h5⟩
    · exact absurd hmt (h3 _ k1 k2)
    · have a := h5 _ k1 k2 hmt
      rw [k3, hlen] at a
      have b := le kind h1 h2 h3
      have hmn : m = n := by omega
      refine ⟨hmn, ?_, by omega⟩
      unfold Mt at h3
      rw [← h4, hmn] at h3
      refine tokB_inj _ (by omega) _ (by omega) k1 h1 ?_
      rw [k3, h3]
/-- The sign at a place that opens no word. -/
theorem fx_sign {kind m : Nat} (hi : i < r.length) (hB : isB (r.getD i 0) = false) (h35 : r.getD i 0 ≠ 35) (hL : isL (r.getD i 0) = false) (hD : isD (r.getD i 0) = false) (h : FX r i 17 40 kind m) :
    (m = 0 ∧ (lexAt r i).2.2 = 7) ∨ (0 < m ∧ lexAt r i = (m, [⟨kind, i, 0, ⟨#[]⟩⟩], 0)) := by
  have hat : lexAt r i = if twinP (r.getD i 0) (r.getD (i + 1) 0) ≠ 0 then (2, [⟨twinP (r.getD i 0) (r.getD (i + 1) 0), i, 0, ⟨#[]⟩⟩], 0)
      else if singleP (r.getD i 0) ≠ 0 then (1, [⟨singleP (r.getD i 0), i, 0, ⟨#[]⟩⟩], 0) else (0, [], 7) := by
    unfold lexAt
    rw [if_neg (by rw [hB]; simp), if_neg h35, if_neg (by rw [hL]; simp), if_neg (by rw [hD]; simp)]
  have tw : twinP (r.getD i 0) (r.getD (i + 1) 0) ≠ 0 → i + 1 < r.length := by
    intro ht
    rcases Nat.lt_or_ge (i + 1) r.length with h | h
    · exact h
    · exfalso
      rw [show r.getD (i + 1) 0 = 0 by rw [List.getD_eq_getElem?_getD, List.getElem?_eq_none h]; rfl] at ht
      apply ht
      unfold twinP
      simp
  by_cases ht : twinP (r.getD i 0) (r.getD (i + 1) 0) ≠ 0
  · obtain ⟨t1, t2, t3⟩ := twin_is _ _ ht
    have hmt : Mt r i (twinP (r.getD i 0) (r.getD (i + 1) 0)) := by unfold Mt; rw [t3]; exact take2 (tw ht)
    rcases h with ⟨h1, h2, h3⟩ | ⟨h1, h2, h3, h4, h5⟩
    · exact absurd hmt (h3 _ t1 t2)
    · have a := h5 _ t1 t2 hmt
      rw [t3] at a
      simp only [List.length_cons, List.length_nil] at a
      have hl := sign_len kind h2 h1
      have hm2 : m = 2 := by omega
      have hk : kind = twinP (r.getD i 0) (r.getD (i + 1) 0) := by
        refine tokB_inj _ h2 _ t2 (by omega) (by omega) ?_
        unfold Mt at h3
        rw [← h4, hm2, take2 (tw ht)] at h3
        rw [t3, h3]
      right
      refine ⟨by omega, ?_⟩
      rw [hat, if_pos ht, hm2, hk]
  · by_cases hs : singleP (r.getD i 0) ≠ 0
    · obtain ⟨t1, t2, t3⟩ := single_is _ hs
      have hmt : Mt r i (singleP (r.getD i 0)) := by unfold Mt; rw [t3]; exact take1 hi
      rcases h with ⟨h1, h2, h3⟩ | ⟨h1, h2, h3, h4, h5⟩
      · exact absurd hmt (h3 _ t1 t2)
      · have a := h5 _ t1 t2 hmt
        rw [t3] at a
        simp only [List.length_cons, List.length_nil] at a
        have hl := sign_len kind h2 h1
        unfold Mt at h3
        have hm1 : m = 1 := by
          rcases hl with hl | hl
          · omega
          · exfalso
            rw [hl] at h3
            have hlen := congrArg List.length h3
            rw [List.length_take, List.length_drop, hl] at hlen
            rw [take2 (by omega)] at h3
            have := twin_spell kind h2 h1 hl
            rw [← h3] at this
            simp only [List.getD_cons_zero, List.getD_cons_succ] at this
            omega
        have hk : kind = singleP (r.getD i 0) := by
          refine tokB_inj _ h2 _ t2 (by omega) (by omega) ?_
          rw [← h4, hm1, take1 hi] at h3
          rw [t3, h3]
        right
        refine ⟨by omega, ?_⟩
        rw [hat, if_neg ht, if_pos hs, hm1, hk]
    · left
      rcases h with ⟨h1, h2, h3⟩ | ⟨h1, h2, h3, h4, h5⟩
      · exact ⟨h2, by rw [hat, if_neg ht, if_neg hs]⟩
      · exfalso
        unfold Mt at h3
        rcases sign_len kind h2 h1 with hl | hl
        · rw [hl, take1 hi] at h3
          have := single_spell kind h2 h1 hl
          rw [← h3] at this
          simp only [List.getD_cons_zero] at this
          omega
        · rw [hl] at h3
          have hlen := congrArg List.length h3
          rw [List.length_take, List.length_drop, hl] at hlen
          rw [take2 (by omega)] at h3
          have := twin_spell kind h2 h1 hl
          rw [← h3] at this
          simp only [List.getD_cons_zero, List.getD_cons_succ] at this
          omega
end Go.Proofs.Qxb6500562aGreat
