/-
  The language's tokens, plain.
-/
import Derived.Test.Qxb6500564aGreatTxR
namespace Go.Proofs.Qxb6500564aGreat
open Go.Den Go.Zip
set_option linter.unusedVariables false
set_option linter.unusedSimpArgs false
variable {w w' u v : World} {i j k n a b : Nat} {s x : ByteArray}

structure Tk where
  kind : Nat
  text : ByteArray
  val : Int
def blkP (c : Nat) : Bool := c == 32 || c == 9 || c == 10 || c == 13
def letP (c : Nat) : Bool := (decide (65 ≤ c) && decide (c ≤ 90)) || (decide (97 ≤ c) && decide (c ≤ 122)) || c == 95
def digP (c : Nat) : Bool := decide (48 ≤ c) && decide (c ≤ 57)
def wrdP (c : Nat) : Bool := letP c || digP c
/-- The first place from i on where P does not hold. -/
def scn (P : Nat → Bool) (s : ByteArray) (i : Nat) : Nat := i + (((bt s).drop i).takeWhile P).length
theorem scn_stop {P : Nat → Bool} (hj : (bt s).length ≤ i ∨ ∃ c, (bt s)[i]? = some c ∧ P c = false) : scn P s i = i := by
  unfold scn
  rcases hj with h | ⟨c, h, hc⟩
  · rw [List.drop_of_length_le h]; rfl
  · have hi := (List.getElem?_eq_some_iff.1 h).1
    rw [List.drop_eq_getElem_cons hi]
    have e : (bt s)[i] = c := by rw [List.getElem?_eq_getElem hi] at h; exact Option.some.inj h
    rw [e, List.takeWhile_cons_of_neg (by simp [hc])]; rfl
theorem scn_step {P : Nat → Bool} {c : Nat} (h : (bt s)[i]? = some c) (hc : P c = true) : scn P s i = scn P s (i + 1) := by
  unfold scn
  have hi := (List.getElem?_eq_some_iff.1 h).1
  have e : (bt s)[i] = c := by rw [List.getElem?_eq_getElem hi] at h; exact Option.some.inj h
  rw [List.drop_eq_getElem_cons hi, e, List.takeWhile_cons_of_pos hc, List.length_cons]
  omega
theorem scn_ge (P : Nat → Bool) (s : ByteArray) (i : Nat) : i ≤ scn P s i := by unfold scn; omega
theorem scn_le {P : Nat → Bool} (h : i ≤ (bt s).length) : scn P s i ≤ (bt s).length := by
  unfold scn
  have := (List.takeWhile_sublist (p := P) (l := (bt s).drop i)).length_le
  rw [List.length_drop] at this
  omega
theorem scn_at {P : Nat → Bool} (h : i ≤ (bt s).length) : scn P s i = (bt s).length ∨ ∃ c, (bt s)[scn P s i]? = some c ∧ P c = false := by
  have key : ∀ m i, i ≤ (bt s).length → (bt s).length - i = m → scn P s i = (bt s).length ∨ ∃ c, (bt s)[scn P s i]? = some c ∧ P c = false := by
    intro m
    induction m with
    | zero =>
      intro i hi hm
      rw [scn_stop (.inl (by omega))]
      exact .inl (by omega)
    | succ m ih =>
      intro i hi hm
      have hil : i < (bt s).length := by omega
      obtain ⟨c, hc⟩ : ∃ c, (bt s)[i]? = some c := ⟨_, List.getElem?_eq_getElem hil⟩
      cases hp : P c with
      | true =>
        rw [scn_step hc hp]
        exact ih (i + 1) (by omega) (by omega)
      | false =>
        rw [scn_stop (.inr ⟨c, hc, hp⟩)]
        exact .inr ⟨c, hc, hp⟩
  exact key _ i h rfl
def kws : List ByteArray := [⟨#[79, 78]⟩, ⟨#[66, 89]⟩, ⟨#[65, 78, 68]⟩, ⟨#[83, 69, 84]⟩, ⟨#[73, 78, 84]⟩, ⟨#[75, 69, 89]⟩, ⟨#[68, 82, 79, 80]⟩, ⟨#[73, 78, 84, 79]⟩, ⟨#[70, 82, 79, 77]⟩, ⟨#[68, 69, 83, 67]⟩, ⟨#[84, 69, 88, 84]⟩, ⟨#[66, 69, 71, 73, 78]⟩, ⟨#[84, 65, 66, 76, 69]⟩, ⟨#[73, 78, 68, 69, 88]⟩, ⟨#[87, 72, 69, 82, 69]⟩, ⟨#[79, 82, 68, 69, 82]⟩, ⟨#[76, 73, 77, 73, 84]⟩, ⟨#[67, 79, 77, 77, 73, 84]⟩, ⟨#[67, 82, 69, 65, 84, 69]⟩, ⟨#[73, 78, 83, 69, 82, 84]⟩, ⟨#[86, 65, 76, 85, 69, 83]⟩, ⟨#[83, 69, 76, 69, 67, 84]⟩, ⟨#[85, 80, 68, 65, 84, 69]⟩, ⟨#[68, 69, 76, 69, 84, 69]⟩, ⟨#[82, 79, 76, 76, 66, 65, 67, 75]⟩]
def kwP (x : ByteArray) : Bool := kws.any fun y => decide (x = y)
theorem kwP_true (h : x ∈ kws) : kwP x = true := List.any_eq_true.2 ⟨x, h, by simp⟩
theorem kwP_false (h : ¬ x ∈ kws) : kwP x = false := by
  rw [Bool.eq_false_iff]
  intro e
  obtain ⟨y, hy, e⟩ := List.any_eq_true.1 e
  exact h (of_decide_eq_true e ▸ hy)
/-- The number that digits tell. -/
def numD (ds : List Nat) : Nat := ds.foldl (fun n d => 10 * n + (d - 48)) 0
def sgn2 (c : Nat) : Bool := c == 60 || c == 62 || c == 33
def sgn1 (c : Nat) : Bool := c == 40 || c == 41 || c == 44 || c == 42 || c == 61 || c == 60 || c == 62
def btA (s : ByteArray) (i : Nat) : Nat := (bt s).getD i 0
def badT : Tk × Nat := (⟨1, ⟨#[]⟩, 0⟩, 0)
/-- The token that opens at a place that is no blank. -/
def lxAt (s : ByteArray) (a : Nat) : Tk × Nat :=
  if a ≥ s.size then (⟨0, ⟨#[]⟩, 0⟩, a)
  else if letP (btA s a) then (⟨if kwP (s.extract a (scn wrdP s (a + 1))) then 3 else 2, s.extract a (scn wrdP s (a + 1)), 0⟩, scn wrdP s (a + 1))
  else if digP (btA s a) then (if numD (((bt s).drop a).take (scn digP s a - a)) < 2 ^ 63 then (⟨4, ⟨#[]⟩, (numD (((bt s).drop a).take (scn digP s a - a)) : Nat)⟩, scn digP s a) else badT)
  else if btA s a = 45 ∧ a + 1 < s.size ∧ digP (btA s (a + 1)) = true then (if numD (((bt s).drop (a + 1)).take (scn digP s (a + 1) - (a + 1))) ≤ 2 ^ 63 then (⟨4, ⟨#[]⟩, - (numD (((bt s).drop (a + 1)).take (scn digP s (a + 1) - (a + 1))) : Nat)⟩, scn digP s (a + 1)) else badT)
  else if btA s a = 39 then (if scn (· != 39) s (a + 1) ≥ s.size then badT else (⟨5, s.extract (a + 1) (scn (· != 39) s (a + 1)), 0⟩, scn (· != 39) s (a + 1) + 1))
  else if sgn2 (btA s a) = true ∧ a + 1 < s.size ∧ btA s (a + 1) = 61 then (⟨6, s.extract a (a + 2), 0⟩, a + 2)
  else if sgn1 (btA s a) then (⟨6, s.extract a (a + 1), 0⟩, a + 1)
  else badT
def lx (s : ByteArray) (at_ : Nat) : Tk × Nat := lxAt s (scn blkP s at_)
theorem btA_get (h : i < s.size) : (bt s)[i]? = some (btA s i) := by
  unfold btA
  rw [List.getD_eq_getElem?_getD, List.getElem?_eq_getElem (by rw [bt_len]; exact h)]; rfl
theorem blank_spec {c : Nat} {K : Bool → World → Prop} (hK : K (blkP c) w) : S.query_blank (c : Int) w K := by
  unfold S.query_blank
  unfold blkP at hK
  refine ifk (fun h => ?_) fun h => ifk (fun h2 => ?_) fun h2 => ifk (fun h3 => ?_) fun h3 => ?_
  · have : c = 32 := by omega
    subst this; exact hK
  · have : c = 9 := by omega
    subst this; exact hK
  · have : c = 10 := by omega
    subst this; exact hK
  · have e1 : (c == 32) = false := by rw [beq_eq_false_iff_ne]; omega
    have e2 : (c == 9) = false := by rw [beq_eq_false_iff_ne]; omega
    have e3 : (c == 10) = false := by rw [beq_eq_false_iff_ne]; omega
    rw [e1, e2, e3] at hK
    have : (((c : Int)) == 13) = (c == 13) := by rw [Bool.eq_iff_iff, beq_iff_eq, beq_iff_eq]; omega
    rw [this]; exact hK
theorem let_eq (c : Nat) : letP c = (if 65 ≤ c then (if c ≤ 90 then true else if 97 ≤ c then (if c ≤ 122 then true else c == 95) else c == 95) else (if 97 ≤ c then (if c ≤ 122 then true else c == 95) else c == 95)) := by
  unfold letP
  by_cases h1 : 65 ≤ c <;> by_cases h2 : c ≤ 90 <;> by_cases h3 : 97 ≤ c <;> by_cases h4 : c ≤ 122 <;> simp [h1, h2, h3, h4] <;> omega
theorem letter_spec {c : Nat} {K : Bool → World → Prop} (hK : K (letP c) w) : S.query_letter (c : Int) w K := by
  unfold S.query_letter
  rw [let_eq] at hK
  have e95 : (((c : Int)) == 95) = (c == 95) := by rw [Bool.eq_iff_iff, beq_iff_eq, beq_iff_eq]; omega
  rw [e95]
  refine ifd (fun h1 => ?_) fun h1 => ?_
  · rw [if_pos (by omega)] at hK
    refine ifd (fun h2 => ?_) fun h2 => ?_
    · rw [if_pos (by omega)] at hK; exact hK
    · rw [if_neg (by omega)] at hK
      refine ifd (fun h3 => ?_) fun h3 => ?_
      · rw [if_pos (by omega)] at hK
        refine ifd (fun h4 => ?_) fun h4 => ?_
        · rw [if_pos (by omega)] at hK; exact hK
        · rw [if_neg (by omega)] at hK; exact hK
      · rw [if_neg (by omega)] at hK; exact hK
  · rw [if_neg (by omega)] at hK
    refine ifd (fun h3 => ?_) fun h3 => ?_
    · rw [if_pos (by omega)] at hK
      refine ifd (fun h4 => ?_) fun h4 => ?_
      · rw [if_pos (by omega)] at hK; exact hK
      · rw [if_neg (by omega)] at hK; exact hK
    · rw [if_neg (by omega)] at hK; exact hK
theorem digit_spec {c : Nat} {K : Bool → World → Prop} (hK : K (digP c) w) : S.query_digit (c : Int) w K := by
  unfold S.query_digit
  unfold digP at hK
  refine ifd (fun h1 => ?_) fun h1 => ?_
  · rw [decide_eq_true (show 48 ≤ c by omega), Bool.true_and] at hK
    have e : decide ((c : Int) ≤ 57) = decide (c ≤ 57) := by rw [decide_eq_decide]; omega
    rw [e]; exact hK
  · rw [decide_eq_false (show ¬ 48 ≤ c by omega), Bool.false_and] at hK
    exact hK
theorem bl_ite {a b : ByteArray} {A B : Prop} (h1 : a = b → A) (h2 : a ≠ b → B) : if (a.toList == b.toList) = true then A else B := str_eq h1 h2
theorem tl_ne {a b : ByteArray} (h : a ≠ b) : (a.toList == b.toList) = false := by
  rw [beq_eq_false_iff_ne]
  exact fun e => h (toList_inj e)
set_option maxRecDepth 100000 in
set_option maxHeartbeats 4000000 in
theorem keyword_spec {K : Bool → World → Prop} (hK : K (kwP x) w) : S.query_keyword x w K := by
  unfold S.query_keyword
  rw [join_eq]
  have yes : ∀ {y : ByteArray}, x = y → y ∈ kws → (if (x.toList == y.toList) = true then K true w else K false w) := fun {y} e hm => by
    subst e
    rw [if_pos (by simp)]
    have : kwP x = true := kwP_true hm
    rw [this] at hK; exact hK
  repeat (refine str_eq (fun e => yes e (by rw [kws]; simp)) fun e => ?_)
  rename_i e1 e2 e3 e4 e5 e6 e7 e8 e9 e10 e11 e12 e13 e14 e15 e16 e17 e18 e19 e20 e21 e22 e23 
  by_cases h : x = ⟨#[82, 79, 76, 76, 66, 65, 67, 75]⟩
  · exact yes h (by rw [kws]; simp)
  · dsimp only
    rw [tl_ne h, if_neg (by simp)]
    have : kwP x = false := by
      refine kwP_false fun hm => ?_
      rw [kws] at hm
      simp only [List.mem_cons, List.not_mem_nil, or_false] at hm
      rcases hm with hm | hm | hm | hm | hm | hm | hm | hm | hm | hm | hm | hm | hm | hm | hm | hm | hm | hm | hm | hm | hm | hm | hm | hm | hm
      all_goals first | exact h hm | exact absurd hm (by assumption)
    rw [this] at hK; exact hK
end Go.Proofs.Qxb6500564aGreat
