/-
  The plain lexer at each kind of byte.
-/
import Derived.Test.Qxb6500562aGreatLexT
namespace Go.Proofs.Qxb6500562aGreat
open Go.Den Go.Zip
set_option linter.unusedVariables false
set_option linter.unusedSimpArgs false
variable {r : List Nat} {i n c : Nat}

theorem isL_iff (c : Nat) : isL c = true ↔ (97 ≤ c ∧ c ≤ 122) ∨ (65 ≤ c ∧ c ≤ 90) ∨ c = 95 := by simp [isL, or_assoc]
theorem isD_iff (c : Nat) : isD c = true ↔ 48 ≤ c ∧ c ≤ 57 := by simp [isD]
theorem isB_iff (c : Nat) : isB c = true ↔ c = 32 ∨ c = 9 ∨ c = 10 ∨ c = 13 := by simp [isB, or_assoc]
theorem isT_iff (c : Nat) : isT c = true ↔ c = 61 ∨ c = 33 ∨ c = 60 ∨ c = 62 ∨ c = 38 ∨ c = 124 := by simp [isT, or_assoc]
theorem isS_iff (c : Nat) : isS c = true ↔ c = 40 ∨ c = 41 ∨ c = 123 ∨ c = 125 ∨ c = 91 ∨ c = 93 ∨ c = 44 ∨ c = 59 ∨ c = 43 ∨ c = 45 ∨ c = 42 ∨ c = 47 ∨ c = 37 := by simp [isS, or_assoc]
theorem notB_of_L (h : isL c = true) : isB c = false ∧ c ≠ 35 := by
  rw [isL_iff] at h
  exact ⟨by rw [Bool.eq_false_iff, ne_eq, isB_iff]; omega, by omega⟩
theorem notL_of_D (h : isD c = true) : isB c = false ∧ c ≠ 35 ∧ isL c = false := by
  rw [isD_iff] at h
  exact ⟨by rw [Bool.eq_false_iff, ne_eq, isB_iff]; omega, by omega, by rw [Bool.eq_false_iff, ne_eq, isL_iff]; omega⟩
theorem plain_of (h : isT c = true ∨ isS c = true) : isB c = false ∧ c ≠ 35 ∧ isL c = false ∧ isD c = false := by
  rw [isT_iff, isS_iff] at h
  exact ⟨by rw [Bool.eq_false_iff, ne_eq, isB_iff]; omega, by omega, by rw [Bool.eq_false_iff, ne_eq, isL_iff]; omega, by rw [Bool.eq_false_iff, ne_eq, isD_iff]; omega⟩
theorem lexAt_blank (h : isB (r.getD i 0) = true) : lexAt r i = (1, [], 0) := by unfold lexAt; rw [if_pos h]
theorem lexAt_note (h : r.getD i 0 = 35) (hn : IsRun (fun m => r.getD (i + m) 0 != 10) (r.length - i) n) : lexAt r i = (n, [], 0) := by
  have hb : ¬ isB (r.getD i 0) = true := by rw [isB_iff]; omega
  unfold lexAt
  rw [if_neg hb, if_pos h, upto_eq hn]
theorem lexAt_word {s : ByteArray} (h : isL (r.getD i 0) = true) (hn : IsRun (fun m => isW (r.getD (i + m) 0)) (r.length - i) n) (h8 : n ≤ 8) (hs : bt s = (r.drop i).take n) : lexAt r i = (n, [wordTok i s], 0) := by
  obtain ⟨h1, h2⟩ := notB_of_L h
  unfold lexAt
  rw [h1, if_neg (by simp), if_neg h2, if_pos h, upto_eq hn, if_neg (by omega), ← hs, strOf_bt]
  rfl
theorem lexAt_long (h : isL (r.getD i 0) = true) (h8 : ∀ m, m ≤ 8 → isW (r.getD (i + m) 0) = true) (hl : i + 8 < r.length) : (lexAt r i).2.2 = 9 := by
  obtain ⟨h1, h2⟩ := notB_of_L h
  unfold lexAt
  rw [h1, if_neg (by simp), if_neg h2, if_pos h, if_pos]
  have hr := upto_run (fun m => isW (r.getD (i + m) 0)) (r.length - i)
  rcases Nat.lt_or_ge 8 (upto (fun m => isW (r.getD (i + m) 0)) (r.length - i)) with hh | hh
  · exact hh
  · have := hr.2.2 (by omega)
    dsimp only at this
    rw [h8 _ hh] at this
    cases this
theorem lexAt_num {v : Nat} (h : isD (r.getD i 0) = true) (hn : IsRun (fun m => isD (r.getD (i + m) 0)) (r.length - i) n) (hv : valP ((r.drop i).take n) 0 = some v) : lexAt r i = (n, [⟨2, i, v, ⟨#[]⟩⟩], 0) := by
  obtain ⟨h1, h2, h3⟩ := notL_of_D h
  unfold lexAt
  rw [h1, if_neg (by simp), if_neg h2, h3, if_neg (by simp), if_pos h, upto_eq hn, hv]
theorem valP_none : ∀ {l : List Nat} {v : Nat} (m : List Nat), valP l v = none → valP (l ++ m) v = none
  | [], v, m, h => by simp [valP] at h
  | c :: l, v, m, h => by
    simp only [valP, List.cons_append] at h ⊢
    split at h
    · rename_i hh; rw [if_pos hh]
    · rename_i hh; rw [if_neg hh]; exact valP_none m h
theorem valP_snoc : ∀ {l : List Nat} {v u : Nat} (c : Nat), valP l v = some u → valP (l ++ [c]) v = if 9223372036854775807 < u * 10 + (c - 48) then none else some (u * 10 + (c - 48))
  | [], v, u, c, h => by simp only [valP, Option.some.injEq] at h; subst h; simp [valP]
  | d :: l, v, u, c, h => by
    simp only [valP, List.cons_append] at h ⊢
    split at h
    · cases h
    · rename_i hh; rw [if_neg hh]; exact valP_snoc c h
theorem lexAt_big (h : isD (r.getD i 0) = true) (hd : ∀ m, m < n → isD (r.getD (i + m) 0) = true) (hl : i + n ≤ r.length) (hv : valP ((r.drop i).take n) 0 = none) : (lexAt r i).2.2 = 8 := by
  obtain ⟨h1, h2, h3⟩ := notL_of_D h
  unfold lexAt
  rw [h1, if_neg (by simp), if_neg h2, h3, if_neg (by simp), if_pos h]
  have hr := upto_run (fun m => isD (r.getD (i + m) 0)) (r.length - i)
  have hle : n ≤ upto (fun m => isD (r.getD (i + m) 0)) (r.length - i) := by
    rcases Nat.lt_or_ge (upto (fun m => isD (r.getD (i + m) 0)) (r.length - i)) n with hh | hh
    · have := hr.2.2 (by omega)
      dsimp only at this
      rw [hd _ hh] at this
      cases this
    · exact hh
  have : valP ((r.drop i).take (upto (fun m => isD (r.getD (i + m) 0)) (r.length - i))) 0 = none := by
    have e : (r.drop i).take (upto (fun m => isD (r.getD (i + m) 0)) (r.length - i)) = (r.drop i).take n ++ ((r.drop i).take (upto (fun m => isD (r.getD (i + m) 0)) (r.length - i))).drop n := by
      conv => lhs; rw [← List.take_append_drop n ((r.drop i).take (upto (fun m => isD (r.getD (i + m) 0)) (r.length - i)))]
      rw [List.take_take, Nat.min_eq_left hle]
    rw [e]
    exact valP_none _ hv
  rw [this]
theorem lexAt_twin (h : isT (r.getD i 0) = true) (ht : twinP (r.getD i 0) (r.getD (i + 1) 0) ≠ 0) : lexAt r i = (2, [⟨twinP (r.getD i 0) (r.getD (i + 1) 0), i, 0, ⟨#[]⟩⟩], 0) := by
  obtain ⟨h1, h2, h3, h4⟩ := plain_of (.inl h)
  unfold lexAt
  rw [h1, if_neg (by simp), if_neg h2, h3, if_neg (by simp), h4, if_neg (by simp), if_pos ht]
theorem twin_of_S (h : isS c = true) (b : Nat) : twinP c b = 0 ∧ singleP c ≠ 0 := by
  rw [isS_iff] at h
  rcases h with rfl | rfl | rfl | rfl | rfl | rfl | rfl | rfl | rfl | rfl | rfl | rfl | rfl <;> exact ⟨rfl, by decide⟩
theorem lexAt_single (h : isT (r.getD i 0) = true ∨ isS (r.getD i 0) = true) (ht : twinP (r.getD i 0) (r.getD (i + 1) 0) = 0) (hs : singleP (r.getD i 0) ≠ 0) : lexAt r i = (1, [⟨singleP (r.getD i 0), i, 0, ⟨#[]⟩⟩], 0) := by
  obtain ⟨h1, h2, h3, h4⟩ := plain_of h
  unfold lexAt
  rw [h1, if_neg (by simp), if_neg h2, h3, if_neg (by simp), h4, if_neg (by simp), if_neg (by omega), if_pos hs]
theorem lexAt_lone (h : isT (r.getD i 0) = true) (ht : twinP (r.getD i 0) (r.getD (i + 1) 0) = 0) (hs : singleP (r.getD i 0) = 0) : (lexAt r i).2.2 = 7 := by
  obtain ⟨h1, h2, h3, h4⟩ := plain_of (.inl h)
  unfold lexAt
  rw [h1, if_neg (by simp), if_neg h2, h3, if_neg (by simp), h4, if_neg (by simp), if_neg (by omega), if_neg (by omega)]
theorem other_of (h : classP c = 0) (b : Nat) : isB c = false ∧ c ≠ 35 ∧ isL c = false ∧ isD c = false ∧ twinP c b = 0 ∧ singleP c = 0 := by
  unfold classP at h
  split at h
  · cases h
  · rename_i g1
    split at h
    · cases h
    · rename_i g2
      split at h
      · cases h
      · rename_i g3
        split at h
        · cases h
        · rename_i g4
          split at h
          · cases h
          · rename_i g5
            split at h
            · cases h
            · rename_i g6
              refine ⟨by simpa using g3, g4, by simpa using g1, by simpa using g2, ?_, ?_⟩
              · rw [isT_iff] at g5
                unfold twinP
                rw [if_neg (by omega), if_neg (by omega), if_neg (by omega), if_neg (by omega), if_neg (by omega), if_neg (by omega)]
              · rw [isT_iff] at g5
                rw [isS_iff] at g6
                unfold singleP
                repeat (rw [if_neg (by omega)])
theorem lexAt_bad (h : classP (r.getD i 0) = 0) : (lexAt r i).2.2 = 7 := by
  obtain ⟨h1, h2, h3, h4, h5, h6⟩ := other_of h (r.getD (i + 1) 0)
  unfold lexAt
  rw [h1, if_neg (by simp), if_neg h2, h3, if_neg (by simp), h4, if_neg (by simp), if_neg (by omega), if_neg (by omega)]
end Go.Proofs.Qxb6500562aGreat
