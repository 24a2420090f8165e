/-
  The real lexer.
-/
import Derived.Test.Qxb6500562aGreatLexP
import Derived.Test.Qxb6500562aGreatS3
namespace Go.Proofs.Qxb6500562aGreat
open Go.Den Go.Zip
set_option linter.unusedVariables false
set_option linter.unusedSimpArgs false
variable {w w' : World}

theorem if_c {c k : Nat} {P Q : Prop} (h1 : c = k → P) (h2 : c ≠ k → Q) : if (((c : Nat) : Int) == ((k : Nat) : Int)) = true then P else Q := by
  by_cases e : c = k
  · rw [if_pos (by simp [e])]; exact h1 e
  · rw [if_neg (by simp; omega)]; exact h2 e
theorem cast_beq (c k : Nat) : (((c : Nat) : Int) == ((k : Nat) : Int)) = (c == k) := by
  by_cases h : c = k
  · simp [h]
  · rw [beq_eq_false_iff_ne.2 h, beq_eq_false_iff_ne.2 (by omega)]
theorem single_spec {c : Nat} {K : Int → World → Prop} (hK : K (singleP c : Int) w) : S.lex_single c w K := by
  unfold S.lex_single
  unfold singleP at hK
  repeat' (first | (refine if_c ?_ ?_ <;> intro h <;> (first | rw [if_pos h] at hK | rw [if_neg h] at hK)) | exact hK)
theorem twin_spec {a b : Nat} {K : Int → World → Prop} (hK : K (twinP a b : Int) w) : S.lex_twin a b w K := by
  unfold S.lex_twin
  unfold twinP at hK
  repeat' (first | (refine if_c ?_ ?_ <;> intro h <;> (first | rw [if_pos h] at hK | rw [if_neg h] at hK)) | exact hK)
theorem guess_spec {n c : Nat} {K : Int → World → Prop} (hK : K (guessP n c : Int) w) : S.lex_guess n c w K := by
  unfold S.lex_guess
  unfold guessP at hK
  repeat' (first | (refine if_c ?_ ?_ <;> intro h <;> (first | rw [if_pos h] at hK | rw [if_neg h] at hK)) | exact hK)
theorem join_P {α : Type} {k : α → World → Prop} {body : (α → World → Prop) → Prop} (P : α → World → Prop) (hk : ∀ x w, P x w → k x w) (hb : ∀ J : α → World → Prop, (∀ x w, P x w → J x w) → body J) : Join k body := hb k hk
theorem join_W {k : World → Prop} {body : (World → Prop) → Prop} (P : World → Prop) (hk : ∀ w, P w → k w) (hb : ∀ J : World → Prop, (∀ w, P w → J w) → body J) : Join k body := hb k hk
set_option maxRecDepth 10000 in
theorem tokText_spec {k : Nat} {K : ByteArray → World → Prop} (hK : K (strOf (tokB k)) w) : S.api_TokText k w K := by
  unfold S.api_TokText
  unfold tokB at hK
  repeat' (first | (refine if_c ?_ ?_ <;> intro h <;> (first | rw [if_pos h] at hK | rw [if_neg h] at hK)) | exact hK)
def isT (c : Nat) : Bool := c == 61 || c == 33 || c == 60 || c == 62 || c == 38 || c == 124
def isS (c : Nat) : Bool := c == 40 || c == 41 || c == 123 || c == 125 || c == 91 || c == 93 || c == 44 || c == 59 || c == 43 || c == 45 || c == 42 || c == 47 || c == 37
def classP (c : Nat) : Nat := if isL c then 1 else if isD c then 2 else if isB c then 3 else if c = 35 then 4 else if isT c then 5 else if isS c then 6 else 0
theorem if_le {a b : Int} {P Q : Prop} (h1 : a ≤ b → P) (h2 : ¬ a ≤ b → Q) : if (decide (a ≤ b)) = true then P else Q := by
  by_cases e : a ≤ b
  · rw [if_pos (by simpa using e)]; exact h1 e
  · rw [if_neg (by simpa using e)]; exact h2 e
theorem class_spec {c : Nat} {K : Int → World → Prop} (hK : K (classP c : Int) w) : S.lex_class c w K := by
  unfold S.lex_class
  refine join_W (fun v => v = w ∧ isL c = false) ?_ ?_
  · rintro v ⟨rfl, hL⟩
    refine join_W (fun u => u = v ∧ isD c = false) ?_ ?_
    · rintro u ⟨rfl, hD⟩
      refine join_P (fun j t => t = u ∧ j = isB c) ?_ ?_
      · rintro j t ⟨rfl, rfl⟩
        by_cases hB : isB c = true
        · rw [if_pos hB]; unfold classP at hK; rw [hL, hD, if_pos hB] at hK; exact hK
        rw [if_neg hB]
        refine if_c (fun h => ?_) (fun h35 => ?_)
        · unfold classP at hK; rw [hL, hD, if_neg hB, if_pos h] at hK; exact hK
        refine join_P (fun j s => s = t ∧ j = isT c) ?_ ?_
        · rintro j s ⟨rfl, rfl⟩
          by_cases hT : isT c = true
          · rw [if_pos hT]; unfold classP at hK; rw [hL, hD, if_neg hB, if_neg h35, if_pos hT] at hK; exact hK
          rw [if_neg hT]
          refine join_P (fun j q => q = s ∧ j = isS c) ?_ ?_
          · rintro j q ⟨rfl, rfl⟩
            by_cases hS : isS c = true
            · rw [if_pos hS]; unfold classP at hK; rw [hL, hD, if_neg hB, if_neg h35, if_neg hT, if_pos hS] at hK; exact hK
            · rw [if_neg hS]; unfold classP at hK; rw [hL, hD, if_neg hB, if_neg h35, if_neg hT, if_neg hS] at hK; exact hK
          · intro J hJ
            repeat' (first | (refine if_c (fun h => hJ _ _ ⟨rfl, by subst h; rfl⟩) (fun h => ?_)))
            refine hJ _ _ ⟨rfl, ?_⟩
            refine (cast_beq c 37).trans ?_; simp_all [isS]
        · intro J hJ
          repeat' (first | (refine if_c (fun h => hJ _ _ ⟨rfl, by subst h; rfl⟩) (fun h => ?_)))
          refine hJ _ _ ⟨rfl, ?_⟩
          refine (cast_beq c 124).trans ?_; simp_all [isT]
      · intro J hJ
        repeat' (first | (refine if_c (fun h => hJ _ _ ⟨rfl, by subst h; rfl⟩) (fun h => ?_)))
        refine hJ _ _ ⟨rfl, ?_⟩
        refine (cast_beq c 13).trans ?_; simp_all [isB]
    · intro J hJ
      by_cases h1 : 48 ≤ c
      · rw [if_pos (by simp only [decide_eq_true_eq]; omega)]
        by_cases h2 : c ≤ 57
        · rw [if_pos (by simp only [decide_eq_true_eq]; omega)]
          unfold classP at hK; rw [hL, if_neg (by simp), if_pos (by simp [isD, h1, h2])] at hK; exact hK
        · rw [if_neg (by simp only [decide_eq_true_eq]; omega)]
          exact hJ _ ⟨rfl, by simp [isD, h2]⟩
      · rw [if_neg (by simp only [decide_eq_true_eq]; omega)]
        exact hJ _ ⟨rfl, by simp [isD, h1]⟩
  · intro J hJ
    have yes : isL c = true → K 1 w := fun h => by unfold classP at hK; rw [if_pos h] at hK; exact hK
    have no : isL c = false → J w := fun h => hJ _ ⟨rfl, h⟩
    by_cases h1 : 97 ≤ c
    · rw [if_pos (by simp only [decide_eq_true_eq]; omega)]
      by_cases h2 : c ≤ 122
      · rw [if_pos (by simp only [decide_eq_true_eq]; omega)]; exact yes (by simp [isL, h1, h2])
      · rw [if_neg (by simp only [decide_eq_true_eq]; omega), if_pos (by simp only [decide_eq_true_eq]; omega), if_neg (by simp only [decide_eq_true_eq]; omega), if_neg (by rw [beq_iff_eq]; omega)]
        exact no (by simp [isL]; omega)
    · rw [if_neg (by simp only [decide_eq_true_eq]; omega)]
      by_cases h3 : 65 ≤ c
      · rw [if_pos (by simp only [decide_eq_true_eq]; omega)]
        by_cases h4 : c ≤ 90
        · rw [if_pos (by simp only [decide_eq_true_eq]; omega)]; exact yes (by simp [isL, h3, h4])
        · rw [if_neg (by simp only [decide_eq_true_eq]; omega)]
          refine if_c (k := 95) (fun h => yes (by subst h; rfl)) (fun h => no ?_)
          have h : c ≠ 95 := h
          simp [isL, h]; omega
      · rw [if_neg (by simp only [decide_eq_true_eq]; omega)]
        refine if_c (k := 95) (fun h => yes (by subst h; rfl)) (fun h => no ?_)
        have h : c ≠ 95 := h
        simp [isL, h]; omega
end Go.Proofs.Qxb6500562aGreat
