/-
  The model's coder: Code, Find: their contracts.
-/
import Derived.Test.Qxb6500563aGreatCodM
namespace Go.Zip
set_option linter.unusedVariables false
set_option linter.unusedSimpArgs false
def hitB (n : Nat) (l : Nat → Nat) (a hv s : Nat) : Bool := decide (0 < l s) && decide (l s ≤ hv) && (a % 2 ^ l s == codeOf n l s)
def openB (n : Nat) (l : Nat → Nat) (a hv s : Nat) : Bool := decide (hv < l s) && (codeOf n l s % 2 ^ hv == a)
/-- The first symbol whose code is the head of a's hv bits. -/
def hitTo (n : Nat) (l : Nat → Nat) (a hv : Nat) : Nat → Option Nat
  | 0 => none
  | j + 1 => match hitTo n l a hv j with | some s => some s | none => if hitB n l a hv j then some j else none
def openTo (n : Nat) (l : Nat → Nat) (a hv : Nat) : Nat → Bool
  | 0 => false
  | j + 1 => openTo n l a hv j || openB n l a hv j
/-- Find's answer: symbol, length, error. -/
def findR (n : Nat) (l : Nat → Nat) (a hv : Nat) : Nat × Nat × Nat := match hitTo n l a hv n with | some s => (s, l s, 0) | none => if openTo n l a hv n then (0, 0, 4) else (0, 0, 8)
theorem hitTo_none {n : Nat} {l : Nat → Nat} {a hv : Nat} : ∀ {j}, hitTo n l a hv j = none → ∀ s, s < j → hitB n l a hv s = false
  | 0, _, s, hs => by omega
  | j + 1, h, s, hs => by
    simp only [hitTo] at h
    cases e : hitTo n l a hv j with
    | some t => rw [e] at h; cases h
    | none =>
      rw [e] at h
      cases hb : hitB n l a hv j with
      | true => simp [hb] at h
      | false =>
        by_cases hsj : s = j
        · subst hsj; exact hb
        · exact hitTo_none e s (by omega)
theorem hitTo_some {n : Nat} {l : Nat → Nat} {a hv t : Nat} : ∀ {j}, hitTo n l a hv j = some t → t < j ∧ hitB n l a hv t = true
  | 0, h => by simp [hitTo] at h
  | j + 1, h => by
    simp only [hitTo] at h
    cases e : hitTo n l a hv j with
    | some t' => rw [e] at h; cases h; have := hitTo_some e; exact ⟨by omega, this.2⟩
    | none =>
      rw [e] at h
      cases hb : hitB n l a hv j with
      | true => simp [hb] at h; subst h; exact ⟨by omega, hb⟩
      | false => simp [hb] at h
/-- A hit below j is the answer at any later place. -/
theorem hitTo_keep {n : Nat} {l : Nat → Nat} {a hv t j : Nat} (h : hitTo n l a hv j = some t) : ∀ m, hitTo n l a hv (j + m) = some t
  | 0 => h
  | m + 1 => by rw [← Nat.add_assoc]; simp only [hitTo]; rw [hitTo_keep h m]
theorem openTo_iff {n : Nat} {l : Nat → Nat} {a hv : Nat} : ∀ j, openTo n l a hv j = true ↔ ∃ s, s < j ∧ openB n l a hv s = true
  | 0 => by simp [openTo]
  | j + 1 => by
    simp only [openTo, Bool.or_eq_true]
    rw [openTo_iff j]
    constructor
    · rintro (⟨s, h1, h2⟩ | h)
      · exact ⟨s, by omega, h2⟩
      · exact ⟨j, by omega, h⟩
    · rintro ⟨s, h1, h2⟩
      by_cases hs : s = j
      · subst hs; exact .inr h2
      · exact .inl ⟨s, by omega, h2⟩
end Go.Zip
namespace Go.Proofs.Qxb6500563aGreat
open Go.Den Go.Zip
set_option linter.unusedVariables false
set_option linter.unusedSimpArgs false
variable {w w' : World} {n p x y : Nat} {l : Nat → Nat}

theorem huffm_Code_spec {s : Nat} {K : Int → Int → Int → World → Prop} (h : MCod w p x y n l) (hs : s < n) (hl : 0 < l s) (hK : ∀ w', w'.heap = w.heap → K (codeOf n l s : Int) (l s : Int) 0 w') : S.huffm_Coder_Code p (s : Int) w K := by
  unfold S.huffm_Coder_Code
  refine join_ ?_
  rw [if_neg (by simp only [decide_eq_true_eq]; omega)]
  refine ldS h.rc rfl ?_
  dsimp only
  rw [if_neg (by simp only [decide_eq_true_eq]; omega)]
  refine ldS h.rc rfl (rdN h.lens hs ?_)
  rw [if_neg (by simp only [beq_iff_eq]; omega)]
  exact drew_ (ldS h.rc.drew rfl (rdN h.code.drew hs (ldS h.rc.drew rfl (rdN h.lens.drew hs (hK _ rfl)))))

theorem mask_and {a k : Nat} (ha : a < 65536) (hk : k ≤ 16) : And .i64 (a : Int) (W (Shl .i64 1 (U64 (k : Int)) - 1)) = ((a % 2 ^ k : Nat) : Int) ∧ 0 ≤ U64 (k : Int) := by
  have hp : 2 ^ k ≤ 65536 := show 2 ^ k ≤ 2 ^ 16 from Nat.pow_le_pow_right (by omega) hk
  have hp0 := Nat.two_pow_pos k
  have e := Shl_nat 1 k (by omega) (by omega)
  rw [Nat.one_mul] at e
  rw [U64_id (by omega) (by omega)]
  refine ⟨?_, by omega⟩
  rw [show Shl .i64 1 (k : Int) = ((2 ^ k : Nat) : Int) from by exact_mod_cast e, W_id (by omega) (by omega), show ((2 ^ k : Nat) : Int) - 1 = ((2 ^ k - 1 : Nat) : Int) from by omega, And_nat (by omega) (by omega), and_mask]

theorem huffm_Find_spec {a hv : Nat} {K : Int → Int → Int → World → Prop} (h : MCod w p x y n l) (L : Lens n l) (hn : n ≤ 265) (hh : hv ≤ 16) (ha : a < 2 ^ hv)
    (hK : K ((findR n l a hv).1 : Int) ((findR n l a hv).2.1 : Int) ((findR n l a hv).2.2 : Int) w) : S.huffm_Coder_Find p (a : Int) (hv : Int) w K := by
  have hp : 2 ^ hv ≤ 65536 := show 2 ^ hv ≤ 2 ^ 16 from Nat.pow_le_pow_right (by omega) hh
  unfold S.huffm_Coder_Find
  refine join_ ?_
  rw [if_neg (by simp only [decide_eq_true_eq]; omega), if_neg (by simp only [decide_eq_true_eq]; omega), if_neg (by simp only [decide_eq_true_eq]; omega)]
  have hu : U64 (hv : Int) = (hv : Int) := U64_id (by omega) (by omega)
  refine ⟨by omega, ?_⟩
  rw [hu, Shr_nat _ _ (by omega), if_neg (by simp [Nat.div_eq_of_lt ha])]
  refine join_ ?_
  refine loopN (fun m st v => ∃ j : Nat, st = (openTo n l a hv j, (j : Int), ()) ∧ m + j = n ∧ hitTo n l a hv j = none ∧ v = w) n ⟨0, rfl, rfl, rfl, rfl⟩ ?_
  rintro m _ v ⟨j, rfl, hm, hnone, rfl⟩ Q hQ
  refine ldS h.rc rfl ?_
  dsimp only
  by_cases hj : j < n
  · rw [if_pos (by simp only [decide_eq_true_eq]; omega)]
    have hc : codeOf n l j < 65536 := by
      have h10 := L.le j hj
      have := rev_lt (numOf n l j) (l j)
      have : 2 ^ l j ≤ 2 ^ 16 := Nat.pow_le_pow_right (by omega) (by omega)
      unfold codeOf
      omega
    have h10 := L.le j hj
    refine join_ (ldS h.rc rfl (rdN h.lens hj (join_ ?_)))
    dsimp only
    have nx : ∀ o : Bool, hitB n l a hv j = false → o = openTo n l a hv (j + 1) → (Let (W ((j : Int) + 1)) fun s_8 => Q (o, s_8, ()) v) := by
      intro o hb ho
      rw [W_succ (by omega), ho]
      exact let_ (hQ (m - 1) _ _ (by omega) ⟨j + 1, rfl, by omega, by simp only [hitTo, hnone, hb]; rfl, rfl⟩)
    have more : hitB n l a hv j = false → (if (decide ((l j : Int) > (hv : Int))) = true then
                  LdS v ⟨p, 1, none⟩ fun code_14 =>
                  Ix code_14.a code_14.l (j : Int) fun b15 o16 =>
                  LdI .i64 v ⟨b15, o16 + Int.toNat (j : Int) * 1, none⟩ fun x_17 =>
                  Pos (hv : Int) <|
                  if ((And .i64 x_17 (W ((Shl .i64 1 (hv : Int)) - 1))) == (a : Int)) = true then
                    (Let (W ((j : Int) + 1)) fun s_8 => Q (true, s_8, ()) v)
                  else
                    (Let (W ((j : Int) + 1)) fun s_8 => Q (openTo n l a hv j, s_8, ()) v)
                else
                  (Let (W ((j : Int) + 1)) fun s_8 => Q (openTo n l a hv j, s_8, ()) v)) := by
      intro hb
      by_cases hgt : hv < l j
      · rw [if_pos (by simp only [decide_eq_true_eq]; omega)]
        refine ldS h.rc rfl (rdN h.code hj ⟨by omega, ?_⟩)
        have hm := (mask_and hc hh).1
        rw [hu] at hm
        rw [hm]
        by_cases he : codeOf n l j % 2 ^ hv = a
        · rw [if_pos (by simp only [beq_iff_eq]; omega)]
          exact nx true hb (by simp [openTo, openB, hgt, he])
        · rw [if_neg (by simp only [beq_iff_eq]; omega)]
          exact nx _ hb (by simp [openTo, openB, he])
      · rw [if_neg (by simp only [decide_eq_true_eq]; omega)]
        exact nx _ hb (by simp [openTo, openB, hgt])
    by_cases h0 : 0 < l j
    · rw [if_pos (by simp only [decide_eq_true_eq]; omega)]
      by_cases hle : l j ≤ hv
      · rw [if_pos (by simp only [decide_eq_true_eq]; omega)]
        obtain ⟨m1, m2⟩ := mask_and (a := a) (k := l j) (by omega) (by omega)
        refine ⟨m2, ldS h.rc rfl (rdN h.code hj ?_)⟩
        rw [m1]
        by_cases he : a % 2 ^ l j = codeOf n l j
        · rw [if_pos (by simp only [beq_iff_eq]; omega)]
          have hb : hitB n l a hv j = true := by simp [hitB, h0, hle, he]
          have hs : hitTo n l a hv (j + 1) = some j := by simp only [hitTo, hnone, hb]; rfl
          have hs' := hitTo_keep hs (n - (j + 1))
          rw [show j + 1 + (n - (j + 1)) = n from by omega] at hs'
          unfold findR at hK
          rw [hs'] at hK
          exact hK
        · rw [if_neg (by simp only [beq_iff_eq]; omega)]
          exact more (by simp [hitB, he])
      · rw [if_neg (by simp only [decide_eq_true_eq]; omega)]
        exact more (by simp [hitB, hle])
    · rw [if_neg (by simp only [decide_eq_true_eq]; omega)]
      exact more (by simp [hitB, h0])
  · rw [if_neg (by simp only [decide_eq_true_eq]; omega)]
    have : j = n := by omega
    subst this
    unfold findR at hK
    rw [hnone] at hK
    cases ho : openTo j l a hv j with
    | true => simp only [ho, if_true] at hK; rw [if_pos rfl]; exact hK
    | false => simp only [ho, Bool.false_eq_true, if_false] at hK; rw [if_neg (by simp)]; exact hK
end Go.Proofs.Qxb6500563aGreat
