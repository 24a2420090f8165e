/-
  The lexer.
-/
import Derived.Test.Qxb6500564aGreatQyA
namespace Go.Proofs.Qxb6500564aGreat
open Go.Den Go.Zip
set_option linter.unusedVariables false
set_option linter.unusedSimpArgs false
variable {w w' u v : World} {i j k n a b : Nat} {s x : ByteArray}

def tkC (k : Int) (t : ByteArray) (v e : Int) : List Value := [.int .i64 k, .string t, .int .i64 v, .int .i64 e]
/-- A token is laid and read. -/
theorem tokO {q : Nat} {vs : List Value} {k v e : Int} {t : ByteArray} {K : Int → ByteArray → Int → Int → World → Prop} (h : Blk w q vs) (hl : vs.length = 4) (hk : ∀ w', Fr q 1 w w' → K k t v e w') :
    St1 w ⟨q, 0, none⟩ (.int .i64 k) fun w => St1 w ⟨q, 1, none⟩ (.string t) fun w => St1 w ⟨q, 2, none⟩ (.int .i64 v) fun w => St1 w ⟨q, 3, none⟩ (.int .i64 e) fun w =>
    LdI .i64 w ⟨q, 0, none⟩ fun a => LdStr w ⟨q, 1, none⟩ fun b => LdI .i64 w ⟨q, 2, none⟩ fun c => LdI .i64 w ⟨q, 3, none⟩ fun d => K a b c d w := by
  match vs, hl with
  | [_, _, _, _], _ =>
    refine st1 h (by show _ < 4; omega) fun w1 h f1 _ => st1 h (by show _ < 4; omega) fun w2 h f2 _ => st1 h (by show _ < 4; omega) fun w3 h f3 _ => st1 h (by show _ < 4; omega) fun w4 h f4 _ => ?_
    exact ldI h rfl (ldStr h rfl (ldI h rfl (ldI h rfl (hk w4 (((f1.trans f2).trans f3).trans f4)))))
theorem numD_snoc (l : List Nat) (d : Nat) : numD (l ++ [d]) = 10 * numD l + (d - 48) := by unfold numD; rw [List.foldl_append]; rfl
theorem numD_le (l m : List Nat) : numD l ≤ numD (l ++ m) := by
  unfold numD
  rw [List.foldl_append]
  generalize List.foldl _ 0 l = z
  induction m generalizing z with
  | nil => exact Nat.le_refl _
  | cons d m ih =>
    rw [List.foldl_cons]
    exact Nat.le_trans (by omega) (ih (10 * z + (d - 48)))
def numN (s : ByteArray) (b : Nat) : Nat := numD (((bt s).drop b).take (scn digP s b - b))
theorem numN_ge (h1 : b ≤ i) (h2 : i ≤ scn digP s b) : numD (((bt s).drop b).take (i - b)) ≤ numN s b := by
  unfold numN
  have : ((bt s).drop b).take (scn digP s b - b) = ((bt s).drop b).take (i - b) ++ (((bt s).drop b).drop (i - b)).take (scn digP s b - i) := by
    rw [← List.take_add]
    congr 1
    omega
  rw [this]
  exact numD_le _ _
theorem digP_iff {c : Nat} : digP c = true ↔ 48 ≤ c ∧ c ≤ 57 := by unfold digP; rw [Bool.and_eq_true, decide_eq_true_eq, decide_eq_true_eq]
set_option maxHeartbeats 1000000 in
theorem digs_spec {p1 : Nat} {vs : List Value} {K : Int → ByteArray → Int → Int → World → Prop} {J : Int → Int → World → Prop} (hb : b ≤ s.size) (hs : s.size ≤ 256) (q : Blk w p1 vs) (hl : vs.length = 4)
    (bad : numN s b > 2 ^ 63 → ∀ w', Fr p1 1 w w' → K 1 ⟨#[]⟩ 0 0 w') (hJ : numN s b ≤ 2 ^ 63 → J ((scn digP s b : Nat) : Int) (-(numN s b : Nat) : Int) w) :
    LoopP (σ := Int × Int × Unit) (fun st20 w next21 =>
      if (decide (st20.1 < (s.size : Int))) = true then
        IxStr s st20.1 fun c22 =>
        S.query_digit c22 w (fun r23 w =>
        if r23 = true then
          IxStr s st20.1 fun c24 =>
          Let (W (U8 (c24 - 48))) fun d_25 =>
          if (decide (st20.2.1 < (W (Int.tdiv (W ((-9223372036854775808) + d_25)) 10)))) = true then
            St1 w ⟨p1, 0, none⟩ (.int .i64 1) fun w =>
            St1 w ⟨p1, 1, none⟩ (.string ⟨#[]⟩) fun w =>
            St1 w ⟨p1, 2, none⟩ (.int .i64 0) fun w =>
            St1 w ⟨p1, 3, none⟩ (.int .i64 0) fun w =>
            LdI .i64 w ⟨p1, 0, none⟩ fun Kind_26 =>
            LdStr w ⟨p1, 1, none⟩ fun Text_27 =>
            LdI .i64 w ⟨p1, 2, none⟩ fun Val_28 =>
            LdI .i64 w ⟨p1, 3, none⟩ fun End_29 =>
            K Kind_26 Text_27 Val_28 End_29 w
          else
            Let (W ((W (st20.2.1 * 10)) - d_25)) fun acc_30 =>
            Let (W (st20.1 + 1)) fun at_31 =>
            next21 (at_31, acc_30, ()) w
        else
          J st20.1 st20.2.1 w)
      else
        J st20.1 st20.2.1 w) ((b : Int), 0, ()) w := by
  have hbl := bt_len s
  refine loopN (fun m st u => ∃ (p : Nat), st = ((p : Int), (-(numD (((bt s).drop b).take (p - b)) : Nat) : Int), ()) ∧ p + m = s.size ∧ b ≤ p ∧ scn digP s p = scn digP s b ∧ numD (((bt s).drop b).take (p - b)) ≤ 2 ^ 63 ∧ u = w) (s.size - b)
    ⟨b, by rw [Nat.sub_self, List.take_zero]; rfl, by omega, Nat.le_refl _, rfl, by rw [Nat.sub_self, List.take_zero]; decide, rfl⟩ ?_
  rintro m _ u ⟨p, rfl, hm, hbp, hsc, hN, rfl⟩ Q hQ
  dsimp only
  have out : (scn digP s p = p) → numN s b = numD (((bt s).drop b).take (p - b)) := fun e => by unfold numN; rw [← hsc, e]
  refine ifd (fun hlt => ?_) fun hlt => ?_
  · have hp : p < s.size := by omega
    have hc := btA_get hp
    refine ixB hc (digit_spec (ifb (fun hd => ?_) fun hd => ?_))
    · have hd' := digP_iff.1 hd
      have hsc1 := (scn_step hc hd).symm.trans hsc
      have hge := scn_ge digP s (p + 1)
      have hsn : numD (((bt s).drop b).take (p + 1 - b)) = 10 * numD (((bt s).drop b).take (p - b)) + (btA s p - 48) := by
        rw [show p + 1 - b = (p - b) + 1 by omega, List.take_add_one, List.getElem?_drop, show b + (p - b) = p by omega, hc]
        exact numD_snoc _ _
      refine ixB hc (let_ ?_)
      have e1 : W (U8 ((btA s p : Int) - 48)) = ((btA s p - 48 : Nat) : Int) := by
        rw [show ((btA s p : Int) - 48) = ((btA s p - 48 : Nat) : Int) by omega, U8_nat, Nat.mod_eq_of_lt (by omega), W_id (by omega) (by omega)]
      rw [e1]
      have hd9 : btA s p - 48 ≤ 9 := by omega
      generalize btA s p - 48 = d at *
      have e2 : W (-9223372036854775808 + (d : Int)) = -((9223372036854775808 - d : Nat) : Int) := by rw [W_id (by omega) (by omega)]; omega
      rw [e2, Int.neg_tdiv, Int.tdiv_eq_ediv_of_nonneg (by omega), W_id (by omega) (by omega)]
      refine ifd (fun hx => ?_) fun hx => ?_
      · refine tokO q hl fun w' f => bad ?_ w' f
        have := numN_ge (s := s) (b := b) (i := p + 1) (by omega) (by omega)
        rw [hsn] at this
        omega
      · have hle : 10 * numD (((bt s).drop b).take (p - b)) + d ≤ 2 ^ 63 := by omega
        have e3 : W (-(numD (((bt s).drop b).take (p - b)) : Int) * 10) = -(numD (((bt s).drop b).take (p - b)) : Int) * 10 := W_id (by omega) (by omega)
        rw [e3]
        refine let_ (let_ ?_)
        rw [W_succ (by omega), W_id (by omega) (by omega)]
        refine hQ (m - 1) _ _ (by omega) ⟨p + 1, ?_, by omega, by omega, hsc1, by omega, rfl⟩
        rw [hsn]
        congr 2
        omega
    · have := scn_stop (P := digP) (.inr ⟨_, hc, hd⟩)
      rw [← out this, ← this, hsc]
      exact hJ (by rw [out this]; exact hN)
  · have := scn_stop (P := digP) (s := s) (i := p) (.inl (by omega))
    rw [← out this, ← this, hsc]
    exact hJ (by rw [out this]; exact hN)
/-- The number that opens at b. -/
def numT (neg : Bool) (s : ByteArray) (b : Nat) : Tk × Nat :=
  if neg then (if numN s b ≤ 2 ^ 63 then (⟨4, ⟨#[]⟩, -(numN s b : Nat)⟩, scn digP s b) else badT) else (if numN s b < 2 ^ 63 then (⟨4, ⟨#[]⟩, (numN s b : Nat)⟩, scn digP s b) else badT)
set_option maxHeartbeats 1000000 in
theorem lexInt_spec {K : Int → ByteArray → Int → Int → World → Prop} (hs : s.size ≤ 256) (ha : a < s.size) (hd : btA s a = 45 → a + 1 < s.size)
    (hK : ∀ w' t, t = (if btA s a = 45 then numT true s (a + 1) else numT false s a) → Fr 0 0 w w' → K (t.1.kind : Nat) t.1.text t.1.val (t.2 : Nat) w') : S.query_lexInt s (a : Int) w K := by
  unfold S.query_lexInt
  refine newB fun w1 q1 f1 z1 => ixB (btA_get ha) (let_ ?_)
  by_cases h45 : btA s a = 45
  · have := hd h45
    rw [if_pos h45] at hK
    have e : ((btA s a : Int) == 45) = true := by rw [beq_iff_eq]; omega
    rw [e, join_eq, if_pos rfl]
    refine let_ ?_
    rw [W_succ (by omega)]
    dsimp only
    refine join_PP (fun x y u => x = ((scn digP s (a + 1) : Nat) : Int) ∧ y = -(numN s (a + 1) : Nat) ∧ u = w1 ∧ numN s (a + 1) ≤ 2 ^ 63) ?_ ?_
    · rintro _ _ _ ⟨rfl, rfl, rfl, hb⟩
      rw [if_pos rfl]
      refine tokO q1 rfl fun w' f => ?_
      have := hK w' _ rfl (f1.thenNew f (Nat.le_refl _))
      unfold numT at this
      rw [if_pos rfl, if_pos hb] at this
      exact this
    · intro J hJ
      refine digs_spec (b := a + 1) (by omega) hs q1 rfl (fun hb w' f => ?_) fun hb => hJ _ _ _ ⟨rfl, rfl, rfl, hb⟩
      have := hK w' _ rfl (f1.thenNew f (Nat.le_refl _))
      unfold numT at this
      rw [if_pos rfl, if_neg (by omega)] at this
      exact this
  · rw [if_neg h45] at hK
    have e : ((btA s a : Int) == 45) = false := by rw [beq_eq_false_iff_ne]; omega
    rw [e, join_eq, if_neg (by simp)]
    dsimp only
    refine join_PP (fun x y u => x = ((scn digP s a : Nat) : Int) ∧ y = -(numN s a : Nat) ∧ u = w1 ∧ numN s a ≤ 2 ^ 63) ?_ ?_
    · rintro _ _ _ ⟨rfl, rfl, rfl, hb⟩
      rw [if_neg (by simp)]
      refine ifk (fun h => ?_) fun h => ?_
      · refine tokO q1 rfl fun w' f => ?_
        have := hK w' _ rfl (f1.thenNew f (Nat.le_refl _))
        unfold numT at this
        rw [if_neg (by simp), if_neg (by omega)] at this
        exact this
      · refine tokO q1 rfl fun w' f => ?_
        have := hK w' _ rfl (f1.thenNew f (Nat.le_refl _))
        unfold numT at this
        rw [if_neg (by simp), if_pos (by omega)] at this
        rw [W_id (by omega) (by omega), show (0 - -(numN s a : Int)) = (numN s a : Int) by omega]
        exact this
    · intro J hJ
      refine digs_spec (b := a) (by omega) hs q1 rfl (fun hb w' f => ?_) fun hb => hJ _ _ _ ⟨rfl, rfl, rfl, hb⟩
      have := hK w' _ rfl (f1.thenNew f (Nat.le_refl _))
      unfold numT at this
      rw [if_neg (by simp), if_neg (by omega)] at this
      exact this
theorem lxAt_num (h : a < s.size) (hl : letP (btA s a) = false) (hd : digP (btA s a) = true ∨ (btA s a = 45 ∧ a + 1 < s.size ∧ digP (btA s (a + 1)) = true)) : lxAt s a = if btA s a = 45 then numT true s (a + 1) else numT false s a := by
  unfold lxAt
  rw [if_neg (by omega), if_neg (by simp [hl])]
  by_cases hd1 : digP (btA s a) = true
  · have := digP_iff.1 hd1
    rw [if_pos hd1, if_neg (show ¬ btA s a = 45 by omega)]
    rfl
  · have h2 := hd.resolve_left hd1
    rw [if_neg hd1, if_pos h2, if_pos h2.1]
    rfl
end Go.Proofs.Qxb6500564aGreat
