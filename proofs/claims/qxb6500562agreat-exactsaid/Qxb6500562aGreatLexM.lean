/-
  The model's lexer.
-/
import Derived.Test.Qxb6500562aGreatLexX
import Derived.Test.Qxb6500562aGreatS7
namespace Go.Proofs.Qxb6500562aGreat
open Go.Den Go.Zip
set_option linter.unusedVariables false
set_option linter.unusedSimpArgs false
variable {w w' : World} {l g n : Nat} {ts : List Tok} {r : List Nat} {i c k : Nat} {s : ByteArray}

theorem mletter_spec {K : Bool → World → Prop} (hK : K (isL c) w) : S.lexm_letter c w K := by
  unfold S.lexm_letter
  have key : ∀ q : Bool, (q = true ↔ isL c = true) → K q w := fun q h => by
    have : q = isL c := by cases q <;> cases hl : isL c <;> simp_all
    rw [this]; exact hK
  have e := isL_iff c
  repeat' split
  all_goals refine key _ ?_
  all_goals simp only [decide_eq_true_eq, beq_iff_eq, e, true_iff] at *
  all_goals omega
theorem mdigit_spec {K : Bool → World → Prop} (hK : K (isD c) w) : S.lexm_digit c w K := by
  unfold S.lexm_digit
  have key : ∀ q : Bool, (q = true ↔ isD c = true) → K q w := fun q h => by
    have : q = isD c := by cases q <;> cases hl : isD c <;> simp_all
    rw [this]; exact hK
  have e := isD_iff c
  repeat' split
  all_goals refine key _ ?_
  all_goals simp only [decide_eq_true_eq, beq_iff_eq, e, false_iff, Bool.false_eq_true] at *
  all_goals omega
theorem getD_get (hi : i < r.length) : r[i]? = some (r.getD i 0) := by rw [List.getD_eq_getElem?_getD, List.getElem?_eq_getElem hi]; rfl
theorem ixS {K : Int → Prop} (hi : i < s.size) (hk : K ((bt s).getD i 0 : Nat)) : IxStr s i K :=
  ixStr (by omega) (m := (bt s).getD i 0) (by rw [Int.toNat_natCast]; exact getD_get (by rw [bt_length]; exact hi)) hk
theorem mblank_spec {K : Int → World → Prop} (hi : i < s.size) (hsz : s.size ≤ 4096)
    (hK : ∀ n, (lexAt (bt s) i = (n, [], 0) ∧ 0 < n ∧ i + n ≤ s.size) ∨ (n = 0 ∧ isB ((bt s).getD i 0) = false ∧ (bt s).getD i 0 ≠ 35) → K (n : Nat) w) : S.lexm_blank s i w K := by
  unfold S.lexm_blank
  have hb := isB_iff ((bt s).getD i 0)
  refine ixS hi ?_
  refine if_c (k := 32) (fun e => hK 1 (.inl ⟨lexAt_blank (hb.2 (by omega)), by omega, by omega⟩)) fun n1 => ?_
  refine ixS hi ?_
  refine if_c (k := 9) (fun e => hK 1 (.inl ⟨lexAt_blank (hb.2 (by omega)), by omega, by omega⟩)) fun n2 => ?_
  refine ixS hi ?_
  refine if_c (k := 10) (fun e => hK 1 (.inl ⟨lexAt_blank (hb.2 (by omega)), by omega, by omega⟩)) fun n3 => ?_
  refine ixS hi ?_
  refine if_c (k := 13) (fun e => hK 1 (.inl ⟨lexAt_blank (hb.2 (by omega)), by omega, by omega⟩)) fun n4 => ?_
  have hbf : isB ((bt s).getD i 0) = false := by
    cases h : isB ((bt s).getD i 0) with
    | false => rfl
    | true => have := hb.1 h; omega
  refine ixS hi ?_
  refine if_c (k := 35) (fun e => ?_) fun n5 => hK 0 (.inr ⟨rfl, hbf, n5⟩)
  refine loopN (fun m st u => u = w ∧ ∃ n : Nat, st = ((n : Int), ()) ∧ i + n ≤ s.size ∧ m = s.size - n ∧ ∀ j, j < n → ((bt s).getD (i + j) 0 != 10) = true) s.size ⟨rfl, 0, rfl, by omega, by omega, fun j hj => by omega⟩ ?_
  rintro m _ u ⟨rfl, n, rfl, hn, rfl, hall⟩ Q hQ
  dsimp only
  rw [W_add (by omega)]
  by_cases hlt : i + n < s.size
  · rw [if_pos (by simp only [decide_eq_true_eq]; omega)]
    refine ixS hlt ?_
    by_cases h10 : (bt s).getD (i + n) 0 = 10
    · rw [if_neg (by simp only [bne_iff_ne, ne_eq]; omega)]
      refine hK n (.inl ⟨lexAt_note e ⟨by rw [bt_length]; omega, hall, fun _ => by dsimp only; rw [h10]; rfl⟩, ?_, by omega⟩)
      rcases Nat.eq_zero_or_pos n with h0 | h0
      · subst h0; rw [Nat.add_zero] at h10; omega
      · exact h0
    · rw [if_pos (by simp only [bne_iff_ne, ne_eq]; omega)]
      refine let_ ?_
      rw [W_succ (by omega)]
      refine hQ _ _ u (by omega) ⟨rfl, n + 1, rfl, by omega, rfl, fun j hj => ?_⟩
      by_cases hjn : j = n
      · subst hjn; simpa using h10
      · exact hall j (by omega)
  · rw [if_neg (by simp only [decide_eq_true_eq]; omega)]
    refine hK n (.inl ⟨lexAt_note e ⟨by rw [bt_length]; omega, hall, fun h => by rw [bt_length] at h; omega⟩, by omega, by omega⟩)
theorem mword_spec {K : Int → World → Prop} (hi : i < s.size) (hsz : s.size ≤ 4096)
    (hK : ∀ n, (isL ((bt s).getD i 0) = true ∧ 0 < n ∧ IsRun (fun m => isW ((bt s).getD (i + m) 0)) ((bt s).length - i) n) ∨ (n = 0 ∧ isL ((bt s).getD i 0) = false) → K (n : Nat) w) : S.lexm_word s i w K := by
  unfold S.lexm_word
  refine ixS hi (mletter_spec ?_)
  cases hL : isL ((bt s).getD i 0) with
  | false =>
    rw [if_pos (by simp)]
    exact hK 0 (.inr ⟨rfl, hL⟩)
  | true =>
    rw [if_neg (by simp)]
    refine loopN (fun m st u => u = w ∧ ∃ n : Nat, st = ((n : Int), ()) ∧ i + n ≤ s.size ∧ m = s.size - n ∧ ∀ j, j < n → isW ((bt s).getD (i + j) 0) = true) s.size ⟨rfl, 0, rfl, by omega, by omega, fun j hj => by omega⟩ ?_
    rintro m _ u ⟨rfl, n, rfl, hn, rfl, hall⟩ Q hQ
    dsimp only
    rw [W_add (by omega)]
    by_cases hlt : i + n < s.size
    · rw [if_pos (by simp only [decide_eq_true_eq]; omega)]
      refine ixS hlt (mletter_spec (ixS hlt (mdigit_spec ?_)))
      refine join_W (fun v => v = u ∧ isW ((bt s).getD (i + n) 0) = true) ?_ ?_
      · rintro v ⟨rfl, hw⟩
        refine let_ ?_
        rw [W_succ (by omega)]
        refine hQ _ _ v (by omega) ⟨rfl, n + 1, rfl, by omega, rfl, fun j hj => ?_⟩
        by_cases hjn : j = n
        · subst hjn; exact hw
        · exact hall j (by omega)
      · intro J hJ
        cases h1 : isL ((bt s).getD (i + n) 0) with
        | true => rw [if_neg (by simp)]; exact hJ u ⟨rfl, by rw [isW, h1]; rfl⟩
        | false =>
          rw [if_pos (by simp)]
          cases h2 : isD ((bt s).getD (i + n) 0) with
          | true => rw [if_neg (by simp)]; exact hJ u ⟨rfl, by rw [isW, h1, h2]; rfl⟩
          | false =>
            rw [if_pos (by simp)]
            refine hK n (.inl ⟨hL, ?_, by rw [bt_length]; omega, hall, fun _ => by simp only [isW, h1, h2]; rfl⟩)
            rcases Nat.eq_zero_or_pos n with h0 | h0
            · subst h0; rw [Nat.add_zero, hL] at h1; cases h1
            · exact h0
    · rw [if_neg (by simp only [decide_eq_true_eq]; omega)]
      exact hK n (.inl ⟨hL, by omega, by rw [bt_length]; omega, hall, fun h => by rw [bt_length] at h; omega⟩)
theorem mnumber_spec {K : Int → World → Prop} (hi : i < s.size) (hsz : s.size ≤ 4096)
    (hK : ∀ n, IsRun (fun m => isD ((bt s).getD (i + m) 0)) ((bt s).length - i) n → K (n : Nat) w) : S.lexm_number s i w K := by
  unfold S.lexm_number
  refine loopN (fun m st u => u = w ∧ ∃ n : Nat, st = ((n : Int), ()) ∧ i + n ≤ s.size ∧ m = s.size - n ∧ ∀ j, j < n → isD ((bt s).getD (i + j) 0) = true) s.size ⟨rfl, 0, rfl, by omega, by omega, fun j hj => by omega⟩ ?_
  rintro m _ u ⟨rfl, n, rfl, hn, rfl, hall⟩ Q hQ
  dsimp only
  rw [W_add (by omega)]
  by_cases hlt : i + n < s.size
  · rw [if_pos (by simp only [decide_eq_true_eq]; omega)]
    refine ixS hlt (mdigit_spec ?_)
    cases h2 : isD ((bt s).getD (i + n) 0) with
    | true =>
      rw [if_pos rfl]
      refine let_ ?_
      rw [W_succ (by omega)]
      refine hQ _ _ u (by omega) ⟨rfl, n + 1, rfl, by omega, rfl, fun j hj => ?_⟩
      by_cases hjn : j = n
      · subst hjn; exact h2
      · exact hall j (by omega)
    | false =>
      rw [if_neg (by simp)]
      exact hK n ⟨by rw [bt_length]; omega, hall, fun _ => h2⟩
  · rw [if_neg (by simp only [decide_eq_true_eq]; omega)]
    exact hK n ⟨by rw [bt_length]; omega, hall, fun h => by rw [bt_length] at h; omega⟩
theorem mvalue_spec {K : Int → Bool → World → Prop} (hd : ∀ x ∈ bt s, isD x = true) (hsz : s.size ≤ 4096)
    (hK : ∀ v q, (q = true ∧ valP (bt s) 0 = some v) ∨ (q = false ∧ valP (bt s) 0 = none) → K (v : Nat) q w) : S.lexm_value s w K := by
  unfold S.lexm_value
  refine join_P (fun (v : Int) u => u = w ∧ ∃ v' : Nat, v = v' ∧ valP (bt s) 0 = some v') ?_ ?_
  · rintro _ _ ⟨rfl, v, rfl, hv⟩
    exact hK v true (.inl ⟨rfl, hv⟩)
  · intro J hJ
    refine loopN (fun m st u => u = w ∧ ∃ v j : Nat, st = ((v : Int), (j : Int), ()) ∧ j ≤ s.size ∧ m = s.size - j ∧ v ≤ 9223372036854775807 ∧ valP (bt s) 0 = valP ((bt s).drop j) v) s.size ⟨rfl, 0, 0, rfl, by omega, by omega, by omega, by rw [List.drop_zero]⟩ ?_
    rintro m _ u ⟨rfl, v, j, rfl, hj, rfl, hv, hval⟩ Q hQ
    dsimp only
    by_cases hlt : j < s.size
    · rw [if_pos (by simp only [decide_eq_true_eq]; omega)]
      refine ixS hlt ?_
      have hjl : j < (bt s).length := by rw [bt_length]; exact hlt
      have hget := getD_get hjl
      have hD := (isD_iff _).1 (hd _ (List.mem_of_getElem? hget))
      have hdr : (bt s).drop j = (bt s).getD j 0 :: (bt s).drop (j + 1) := by
        rw [List.drop_eq_getElem_cons hjl]
        congr 1
        rw [List.getElem?_eq_getElem hjl] at hget
        exact Option.some.inj hget
      generalize hcc : (bt s).getD j 0 = cc at *
      rw [hdr] at hval
      simp only [valP] at hval
      have e8 : W (U8 (((cc : Nat) : Int) - 48)) = ((cc - 48 : Nat) : Int) := by rw [U8_mod, W_id (by omega) (by omega)]; omega
      rw [e8]
      refine let_ ?_
      have e9 : W (Int.tdiv (W (9223372036854775807 - ((cc - 48 : Nat) : Int))) 10) = (((9223372036854775807 - (cc - 48)) / 10 : Nat) : Int) := by
        rw [W_id (x := 9223372036854775807 - ((cc - 48 : Nat) : Int)) (by omega) (by omega), show (9223372036854775807 - ((cc - 48 : Nat) : Int)) = ((9223372036854775807 - (cc - 48) : Nat) : Int) by omega]
        rw [show Int.tdiv ((9223372036854775807 - (cc - 48) : Nat) : Int) 10 = (((9223372036854775807 - (cc - 48)) / 10 : Nat) : Int) from rfl]
        exact W_id (by omega) (by omega)
      rw [e9]
      by_cases hbig : 9223372036854775807 < v * 10 + (cc - 48)
      · rw [if_pos (by simp only [decide_eq_true_eq]; omega)]
        rw [if_pos hbig] at hval
        exact hK 0 false (.inr ⟨rfl, hval⟩)
      · rw [if_neg (by simp only [decide_eq_true_eq]; omega)]
        rw [if_neg hbig] at hval
        refine let_ (let_ ?_)
        rw [W_succ (by omega), W_id (x := ((v : Nat) : Int) * 10) (by omega) (by omega), W_id (x := ((v : Nat) : Int) * 10 + ((cc - 48 : Nat) : Int)) (by omega) (by omega), show ((v : Nat) : Int) * 10 + ((cc - 48 : Nat) : Int) = ((v * 10 + (cc - 48) : Nat) : Int) by omega]
        exact hQ _ _ u (by omega) ⟨rfl, _, j + 1, rfl, by omega, rfl, by omega, hval⟩
    · rw [if_neg (by simp only [decide_eq_true_eq]; omega)]
      rw [List.drop_of_length_le (by rw [bt_length]; omega)] at hval
      exact hJ _ u ⟨rfl, v, rfl, hval⟩
/-- Spelling k stands at i. -/
def Mt (r : List Nat) (i k : Nat) : Prop := (r.drop i).take (tokB k).length = tokB k
/-- The longest of the spellings from..to-1 that stands at i. -/
def FX (r : List Nat) (i a b kind n : Nat) : Prop :=
  (kind = 0 ∧ n = 0 ∧ ∀ j, a ≤ j → j < b → ¬ Mt r i j) ∨ (a ≤ kind ∧ kind < b ∧ Mt r i kind ∧ n = (tokB kind).length ∧ ∀ j, a ≤ j → j < b → Mt r i j → (tokB j).length ≤ n)
theorem tokB_pos : ∀ k, k < 40 → 3 ≤ k → 0 < (tokB k).length := by decide
theorem mfixed_spec {K : Int → Int → World → Prop} {a b : Nat} (hi : i < s.size) (hsz : s.size ≤ 4096) (ha : 3 ≤ a) (hb : b < 40)
    (hK : ∀ kind n : Nat, FX (bt s) i a (b + 1) kind n → K kind n w) : S.lexm_fixed s i a b w K := by
  unfold S.lexm_fixed
  refine join_ ?_
  refine loopN (fun m st u => u = w ∧ ∃ kind n k : Nat, st = ((kind : Int), (n : Int), (k : Int), ()) ∧ (k ≤ b + 1 ∨ k = a) ∧ a ≤ k ∧ m = b + 1 - k ∧ n ≤ 4096 ∧ FX (bt s) i a k kind n) (b + 1 - a)
    ⟨rfl, 0, 0, a, rfl, .inr rfl, Nat.le_refl _, rfl, by omega, .inl ⟨rfl, rfl, fun j h1 h2 => by omega⟩⟩ ?_
  rintro m _ u ⟨rfl, kind, n, k, rfl, hk, hak, rfl, hn, hfx⟩ Q hQ
  dsimp only
  by_cases hkb : k ≤ b
  · rw [if_pos (by simp only [decide_eq_true_eq]; omega)]
    refine join_ ?_
    have next : ∀ kind' n' : Nat, n' ≤ 4096 → FX (bt s) i a (k + 1) kind' n' → (Let (W ((k : Int) + 1)) fun k_8 => Q ((kind' : Int), (n' : Int), k_8, ()) u) := fun kind' n' h1 h2 => by
      refine let_ ?_
      rw [W_succ (by omega)]
      exact hQ _ _ u (by omega) ⟨rfl, kind', n', k + 1, rfl, .inl (by omega), by omega, rfl, h1, h2⟩
    refine tokText_spec ?_
    have hlt : ∀ x ∈ tokB k, x < 256 := tokB_lt k
    have hbt : bt (strOf (tokB k)) = tokB k := bt_strOf hlt
    rw [strOf_size]
    have keep : (¬ n < (tokB k).length ∨ ¬ Mt (bt s) i k) → FX (bt s) i a (k + 1) kind n := fun h => by
      have hp := tokB_pos k (by omega) (by omega)
      rcases hfx with ⟨h1, h2, h3⟩ | ⟨h1, h2, h3, h4, h5⟩
      · subst h1 h2
        refine .inl ⟨rfl, rfl, fun j j1 j2 => ?_⟩
        by_cases hj : j = k
        · subst hj; rcases h with h | h
          · omega
          · exact h
        · exact h3 j j1 (by omega)
      · refine .inr ⟨h1, by omega, h3, h4, fun j j1 j2 j3 => ?_⟩
        by_cases hj : j = k
        · subst hj; rcases h with h | h
          · omega
          · exact absurd j3 h
        · exact h5 j j1 (by omega) j3
    by_cases h1 : n < (tokB k).length
    · rw [if_pos (by simp only [decide_eq_true_eq]; omega)]
      rw [W_sub (by omega) (by omega)]
      by_cases h2 : (tokB k).length ≤ s.size - i
      · rw [if_pos (by simp only [decide_eq_true_eq]; omega)]
        rw [W_add (by omega)]
        refine cutStr (by omega) (by omega) ?_
        rw [strEq, hbt, bt_extract, show i + (tokB k).length - i = (tokB k).length by omega]
        by_cases h3 : Mt (bt s) i k
        · rw [if_pos (by rw [decide_eq_true_eq]; exact h3)]
          refine let_ (next k _ (by omega) (.inr ⟨hak, by omega, h3, rfl, fun j j1 j2 j3 => ?_⟩))
          by_cases hj : j = k
          · subst hj; omega
          · rcases hfx with ⟨_, _, f3⟩ | ⟨_, _, _, _, f5⟩
            · exact absurd j3 (f3 j j1 (by omega))
            · have := f5 j j1 (by omega) j3; omega
        · rw [if_neg (by rw [decide_eq_true_eq]; exact h3)]
          exact next kind n hn (keep (.inr h3))
      · rw [if_neg (by simp only [decide_eq_true_eq]; omega)]
        refine next kind n hn (keep (.inr fun h3 => h2 ?_))
        have := congrArg List.length h3
        simp only [List.length_take, List.length_drop, bt_length] at this
        omega
    · rw [if_neg (by simp only [decide_eq_true_eq]; omega)]
      exact next kind n hn (keep (.inl h1))
  · rw [if_neg (by simp only [decide_eq_true_eq]; omega)]
    refine hK kind n ?_
    rcases hfx with ⟨h1, h2, h3⟩ | ⟨h1, h2, h3, h4, h5⟩
    · exact .inl ⟨h1, h2, fun j j1 j2 => h3 j j1 (by omega)⟩
    · exact .inr ⟨h1, by omega, h3, h4, fun j j1 j2 => h5 j j1 (by omega)⟩
end Go.Proofs.Qxb6500562aGreat
