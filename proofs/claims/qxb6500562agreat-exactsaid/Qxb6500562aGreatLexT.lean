/-
  The real lexer: the machine.
-/
import Derived.Test.Qxb6500562aGreatLexS
namespace Go.Proofs.Qxb6500562aGreat
open Go.Den Go.Zip
set_option linter.unusedVariables false
set_option linter.unusedSimpArgs false
variable {w w' : World} {l g n : Nat} {ts : List Tok} {state start first val fail opn : Nat}

theorem all_ite {c : Prop} [Decidable c] {a b : List Nat} {P : Nat → Prop} (h1 : ∀ x ∈ a, P x) (h2 : ∀ x ∈ b, P x) : ∀ x ∈ (if c then a else b), P x := by
  by_cases h : c
  · rw [if_pos h]; exact h1
  · rw [if_neg h]; exact h2
theorem tokB_lt (k : Nat) : ∀ x ∈ tokB k, x < 256 := by
  unfold tokB
  repeat' (refine all_ite (by decide) ?_)
  intro x hx
  cases hx
def wordTok (i : Nat) (s : ByteArray) : Tok := if kwP (bt s) = 1 then ⟨1, i, 0, s⟩ else ⟨kwP (bt s), i, 0, ⟨#[]⟩⟩
theorem word_spec {s : ByteArray} {K : World → Prop} (h : LX w l g n ts state start first val fail opn) (ht : ts.length ≤ 4097) (hf : first = (bt s).getD 0 0)
    (hK : ∀ w' g' n', LX w' l g' n' (ts ++ [wordTok start s]) state start first val fail opn → FrP (lo l g) w w' → (g' = g ∨ w.heap.size ≤ g') → K w') : S.lex_Lexer_word l s w K := by
  unfold S.lex_Lexer_word
  refine ldI h.rc rfl ?_
  rw [← bt_length s]
  refine guess_spec ?_
  subst hf
  refine join_W (fun u => u = w ∧ kwP (bt s) = 1) ?_ ?_
  · rintro u ⟨rfl, hk⟩
    refine ldI h.rc rfl ?_
    refine push_spec h ht fun w' g' n' h' f hg => hK w' g' n' ?_ f hg
    unfold wordTok; rw [if_pos hk]; exact h'
  · intro J hJ
    by_cases hg : guessP (bt s).length ((bt s).getD 0 0) = 1
    · rw [if_neg (by rw [hg]; simp)]
      exact hJ w ⟨rfl, by unfold kwP; rw [if_neg (by intro h; exact h.1 hg)]⟩
    · rw [if_pos (by simp only [bne_iff_ne, ne_eq]; omega)]
      refine tokText_spec ?_
      rw [strEq]
      by_cases he : bt s = bt (strOf (tokB (guessP (bt s).length ((bt s).getD 0 0))))
      · rw [if_pos (by simpa using he)]
        have hb : bt (strOf (tokB (guessP (bt s).length ((bt s).getD 0 0)))) = tokB (guessP (bt s).length ((bt s).getD 0 0)) := bt_strOf (tokB_lt _)
        have hkw : kwP (bt s) = guessP (bt s).length ((bt s).getD 0 0) := by unfold kwP; rw [if_pos ⟨hg, by rw [← hb]; exact he⟩]
        refine ldI h.rc rfl ?_
        refine push_spec h ht fun w' g' n' h' f hg' => hK w' g' n' ?_ f hg'
        unfold wordTok; rw [hkw, if_neg hg]; exact h'
      · rw [if_neg (by simpa using he)]
        refine hJ w ⟨rfl, ?_⟩
        unfold kwP
        rw [if_neg]
        intro hh
        exact he (by rw [bt_strOf (tokB_lt _)]; exact hh.2)
end Go.Proofs.Qxb6500562aGreat
