/-
  The model's cutting into tokens: letters, digits, words, keywords; what every token tells.
-/
import Derived.Test.Qxb6500564aGreatQyJ
namespace Go.Proofs.Qxb6500564aGreat
open Go.Den Go.Zip
set_option linter.unusedVariables false
set_option linter.unusedSimpArgs false
variable {w w' u v : World} {i j k n a b p st B : Nat} {s x : ByteArray} {t : Tk} {L L' : List Tk}

theorem mletter_spec {c : Nat} {K : Bool → World → Prop} (hK : K (letP c) w) : S.querym_letter (c : Int) w K := by
  have := letter_spec (w := w) hK
  unfold S.query_letter at this
  unfold S.querym_letter
  exact this
theorem mdigit_spec {c : Nat} {K : Bool → World → Prop} (hK : K (digP c) w) : S.querym_digit (c : Int) w K := by
  have := digit_spec (w := w) hK
  unfold S.query_digit at this
  unfold S.querym_digit
  exact this
theorem mwordy_spec {c : Nat} {K : Bool → World → Prop} (hK : K (wrdP c) w) : S.querym_wordy (c : Int) w K := by
  unfold S.querym_wordy
  unfold wrdP at hK
  rw [let_eq] at hK
  have tl : K ((c == 95) || digP c) w → (if ((c : Int) == 95) = true then K true w else if decide ((c : Int) ≥ 48) = true then K (decide ((c : Int) ≤ 57)) w else K false w) := fun hk => by
    refine ifk (fun h => ?_) fun h => ?_
    · have : c = 95 := by omega
      subst this; exact hk
    · have e : (c == 95) = false := by rw [beq_eq_false_iff_ne]; omega
      rw [e, Bool.false_or] at hk
      have := digit_spec (w := w) hk
      unfold S.query_digit at this
      exact this
  refine ifd (fun h1 => ?_) fun h1 => ?_
  · rw [if_pos (by omega)] at hK
    refine ifd (fun h2 => ?_) fun h2 => ?_
    · rw [if_pos (by omega)] at hK; exact hK
    · rw [if_neg (by omega)] at hK
      refine ifd (fun h3 => ?_) fun h3 => ?_
      · rw [if_pos (by omega)] at hK
        refine ifd (fun h4 => ?_) fun h4 => ?_
        · rw [if_pos (by omega)] at hK; exact hK
        · rw [if_neg (by omega)] at hK; exact tl hK
      · rw [if_neg (by omega)] at hK; exact tl hK
  · rw [if_neg (by omega)] at hK
    refine ifd (fun h3 => ?_) fun h3 => ?_
    · rw [if_pos (by omega)] at hK
      refine ifd (fun h4 => ?_) fun h4 => ?_
      · rw [if_pos (by omega)] at hK; exact hK
      · rw [if_neg (by omega)] at hK; exact tl hK
    · rw [if_neg (by omega)] at hK; exact tl hK
set_option maxRecDepth 100000 in
set_option maxHeartbeats 4000000 in
theorem mkeyword_spec {K : Bool → World → Prop} (hK : K (kwP x) w) : S.querym_keyword x w K := by
  unfold S.querym_keyword
  rw [join_eq]
  have yes : ∀ {y : ByteArray}, x = y → y ∈ kws → (if (x.toList == y.toList) = true then K true w else K false w) := fun {y} e hm => by
    subst e
    rw [if_pos (by simp)]
    have : kwP x = true := kwP_true hm
    rw [this] at hK; exact hK
  repeat (refine str_eq (fun e => yes e (by rw [kws]; simp)) fun e => ?_)
  rename_i e1 e2 e3 e4 e5 e6 e7 e8 e9 e10 e11 e12 e13 e14 e15 e16 e17 e18 e19 e20 e21 e22 e23
  by_cases h : x = ⟨#[75, 69, 89]⟩
  · exact yes h (by rw [kws]; simp)
  · dsimp only
    rw [tl_ne h, if_neg (by simp)]
    have : kwP x = false := by
      refine kwP_false fun hm => ?_
      rw [kws] at hm
      simp only [List.mem_cons, List.not_mem_nil, or_false] at hm
      rcases hm with hm | hm | hm | hm | hm | hm | hm | hm | hm | hm | hm | hm | hm | hm | hm | hm | hm | hm | hm | hm | hm | hm | hm | hm | hm
      all_goals first | exact h hm | exact absurd hm (by assumption)
    rw [this] at hK; exact hK
/-- What every token tells. -/
structure TkOk (t : Tk) : Prop where
  k6 : t.kind ≤ 6
  nm : t.kind = 2 → kwP t.text = false ∧ letP (btA t.text 0) = true
  ky : t.kind = 3 → kwP t.text = true
  nt : t.kind = 4 → I64 t.val
theorem btA_ext {e : Nat} (h1 : a < e) (h2 : e ≤ s.size) : btA (s.extract a e) 0 = btA s a := by
  unfold btA
  rw [bt_extract, List.getD_eq_getElem?_getD, List.getD_eq_getElem?_getD]
  congr 1
  rw [List.getElem?_take_of_lt (by omega), List.getElem?_drop]
  rfl
theorem TkOk.bad : TkOk badT.1 := ⟨by decide, fun h => absurd h (by decide), fun h => absurd h (by decide), fun h => absurd h (by decide)⟩
theorem lxAt_ok (ha : a ≤ s.size) : TkOk (lxAt s a).1 := by
  have hbl := bt_len s
  unfold lxAt
  by_cases h0 : a ≥ s.size
  · rw [if_pos h0]
    exact ⟨Nat.zero_le _, fun h => absurd h (by show ¬ 0 = 2; omega), fun h => absurd h (by show ¬ 0 = 3; omega), fun h => absurd h (by show ¬ 0 = 4; omega)⟩
  rw [if_neg h0]
  by_cases h1 : letP (btA s a) = true
  · rw [if_pos h1]
    have := scn_ge wrdP s (a + 1)
    have := scn_le (P := wrdP) (s := s) (i := a + 1) (by omega)
    cases hk : kwP (s.extract a (scn wrdP s (a + 1))) with
    | true =>
      rw [if_pos rfl]
      exact ⟨by show 3 ≤ 6; omega, fun h => absurd h (by show ¬ 3 = 2; omega), fun _ => hk, fun h => absurd h (by show ¬ 3 = 4; omega)⟩
    | false =>
      rw [if_neg (by simp)]
      exact ⟨by show 2 ≤ 6; omega, fun _ => ⟨hk, by rw [btA_ext (by omega) (by omega)]; exact h1⟩, fun h => absurd h (by show ¬ 2 = 3; omega), fun h => absurd h (by show ¬ 2 = 4; omega)⟩
  rw [if_neg h1]
  by_cases h2 : digP (btA s a) = true
  · rw [if_pos h2]
    split
    · rename_i hn
      refine ⟨by show 4 ≤ 6; omega, fun h => absurd h (by show ¬ 4 = 2; omega), fun h => absurd h (by show ¬ 4 = 3; omega), fun _ => ?_⟩
      show I64 ((numD _ : Nat) : Int)
      unfold I64
      omega
    · exact TkOk.bad
  rw [if_neg h2]
  by_cases h3 : btA s a = 45 ∧ a + 1 < s.size ∧ digP (btA s (a + 1)) = true
  · rw [if_pos h3]
    split
    · rename_i hn
      refine ⟨by show 4 ≤ 6; omega, fun h => absurd h (by show ¬ 4 = 2; omega), fun h => absurd h (by show ¬ 4 = 3; omega), fun _ => ?_⟩
      show I64 (-((numD _ : Nat) : Int))
      unfold I64
      omega
    · exact TkOk.bad
  rw [if_neg h3]
  by_cases h4 : btA s a = 39
  · rw [if_pos h4]
    split
    · exact TkOk.bad
    · exact ⟨by show 5 ≤ 6; omega, fun h => absurd h (by show ¬ 5 = 2; omega), fun h => absurd h (by show ¬ 5 = 3; omega), fun h => absurd h (by show ¬ 5 = 4; omega)⟩
  rw [if_neg h4]
  split
  · exact ⟨by show 6 ≤ 6; omega, fun h => absurd h (by show ¬ 6 = 2; omega), fun h => absurd h (by show ¬ 6 = 3; omega), fun h => absurd h (by show ¬ 6 = 4; omega)⟩
  split
  · exact ⟨by show 6 ≤ 6; omega, fun h => absurd h (by show ¬ 6 = 2; omega), fun h => absurd h (by show ¬ 6 = 3; omega), fun h => absurd h (by show ¬ 6 = 4; omega)⟩
  · exact TkOk.bad
theorem lx_ok (hi : i ≤ s.size) : TkOk (lx s i).1 := lxAt_ok (by
  have := scn_le (P := blkP) (s := s) (i := i) (by rw [bt_len]; exact hi)
  rw [bt_len] at this
  exact this)
def endT : Tk := ⟨0, ⟨#[]⟩, 0⟩
theorem TS_end (h : s.size ≤ i) : TS s i = [endT] := by
  have e : lx s i = (endT, i) := by
    unfold lx
    rw [scn_stop (.inl (by rw [bt_len]; exact h))]
    unfold lxAt
    rw [if_pos h]
    rfl
  rw [TS_stop (by rw [e]; show ¬ 1 < 0; omega), e]
theorem lx_blk {c : Nat} (h : (bt s)[i]? = some c) (hc : blkP c = true) : lx s i = lx s (i + 1) := by
  unfold lx
  rw [scn_step h hc]
theorem TS_blk {c : Nat} (h : (bt s)[i]? = some c) (hc : blkP c = true) : TS s i = TS s (i + 1) := by
  have e := lx_blk h hc
  by_cases hk : 1 < (lx s i).1.kind
  · rw [TS_step hk, TS_step (i := i + 1) (by rw [← e]; exact hk), e]
  · rw [TS_stop hk, TS_stop (i := i + 1) (by rw [← e]; exact hk), e]
theorem lx_at {c : Nat} (h : (bt s)[i]? = some c) (hc : blkP c = false) : lx s i = lxAt s i := by
  unfold lx
  rw [scn_stop (.inr ⟨c, h, hc⟩)]
end Go.Proofs.Qxb6500564aGreat
