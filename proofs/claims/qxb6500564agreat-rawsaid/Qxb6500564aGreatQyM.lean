/-
  The model's cutting into tokens: the loop.
-/
import Derived.Test.Qxb6500564aGreatQyL
namespace Go.Proofs.Qxb6500564aGreat
open Go.Den Go.Zip
set_option linter.unusedVariables false
set_option linter.unusedSimpArgs false
variable {w w' u v : World} {i j k n a b p st B : Nat} {s x : ByteArray} {t : Tk} {L L' : List Tk}

set_option maxHeartbeats 8000000 in
theorem tokens_spec {K : Sl → Bool → World → Prop} (hs : s.size ≤ 256) (h1 : Nz (TS s 0) → ∀ w', Fr 0 0 w w' → K nilS false w')
    (h2 : ∀ A ts w', TS s 0 = A ++ [endT] → (∀ t ∈ A, 1 < t.kind ∧ TkOk t) → A.length ≤ 256 → OS w' ts (mtsC A) 3 → (∀ b, owns ts b → w.heap.size ≤ b) → Fr 0 0 w w' → K ts true w') : S.querym_tokens s w K := by
  unfold S.querym_tokens
  rw [if_neg (by simp; omega)]
  have hbl := bt_len s
  refine join_P (fun ts u => ∃ A, MTk w u s s.size A ts) ?_ ?_
  · rintro ts u ⟨A, h⟩
    exact h2 A ts u (by rw [h.eq, TS_end (Nat.le_refl _)]) h.ok (by have := h.al; omega) h.os h.nw h.fr
  intro J hJ
  refine loopN (fun m sv u => ∃ (i : Nat) (A : List Tk) (ts : Sl), sv = (ts, (i : Int), ()) ∧ i + m = s.size ∧ MTk w u s i A ts) s.size
    ⟨0, [], nilS, rfl, by omega, ⟨Nat.zero_le _, Nat.le_refl _, rfl, fun t ht => (by cases ht), OS.nil _ _, fun b hb => (by cases hb), Fr.refl _ _ _⟩⟩ ?_
  rintro m _ u ⟨i, A, ts, rfl, hm, h⟩ Q hQ
  dsimp only
  refine ifd (fun hlt => ?_) fun hlt => ?_
  case refine_2 =>
    have : i = s.size := by omega
    subst this
    exact hJ ts u ⟨A, h⟩
  have hlt : i < s.size := by omega
  have hc := btA_get hlt
  have bad : lx s i = badT → ∀ v, Fr 0 0 w v → K ⟨none, 0, 0⟩ false v := fun e v f => h1 (h.bad e) v f
  have go : ∀ {v : World} {e : Nat} {ts' : Sl} {A' : List Tk}, i < e → MTk w v s e A' ts' → Q (ts', (e : Int), ()) v := fun {v e ts' A'} he h' =>
    hQ (s.size - e) _ _ (by have := h'.le; omega) ⟨e, A', ts', rfl, by have := h'.le; omega, h'⟩
  refine ixB hc ?_
  refine join_W (fun v => blkP (btA s i) = true ∧ u = v) ?_ ?_
  · rintro v ⟨hb, rfl⟩
    refine let_ ?_
    rw [W_succ (by omega)]
    exact go (A' := A) (by omega) ⟨by omega, by have := h.al; omega, by rw [h.eq, TS_blk hc hb], h.ok, h.os, h.nw, h.fr⟩
  intro J7 hJ7
  refine ifk (fun e => hJ7 _ ⟨by rw [show btA s i = 32 by omega]; rfl, rfl⟩) fun n1 => ifk (fun e => hJ7 _ ⟨by rw [show btA s i = 9 by omega]; rfl, rfl⟩) fun n2 => ifk (fun e => hJ7 _ ⟨by rw [show btA s i = 10 by omega]; rfl, rfl⟩) fun n3 => ifk (fun e => hJ7 _ ⟨by rw [show btA s i = 13 by omega]; rfl, rfl⟩) fun n4 => ?_
  have hnb : blkP (btA s i) = false := by
    unfold blkP
    have e1 : (btA s i == 32) = false := by rw [beq_eq_false_iff_ne]; omega
    have e2 : (btA s i == 9) = false := by rw [beq_eq_false_iff_ne]; omega
    have e3 : (btA s i == 10) = false := by rw [beq_eq_false_iff_ne]; omega
    have e4 : (btA s i == 13) = false := by rw [beq_eq_false_iff_ne]; omega
    rw [e1, e2, e3, e4]; rfl
  have hlx := lx_at hc hnb
  refine mletter_spec (ifb (fun hl => ?_) fun hl => ?_)
  · have lxe : lx s i = (⟨if kwP (s.extract i (scn wrdP s (i + 1))) then 3 else 2, s.extract i (scn wrdP s (i + 1)), 0⟩, scn wrdP s (i + 1)) := by
      rw [hlx]
      unfold lxAt
      rw [if_neg (by omega), if_pos hl]
    have hw := scn_ge wrdP s (i + 1)
    have hw2 := scn_le (P := wrdP) (s := s) (i := i + 1) (by omega)
    refine join_P (fun jx v => jx = ((scn wrdP s (i + 1) : Nat) : Int) ∧ u = v) ?_ ?_
    · rintro _ _ ⟨rfl, rfl⟩
      refine cutStr (by omega) (by omega) ?_
      have ek : ∀ b : Bool, mkk (if b = true then 3 else 2) = 1 := fun b => by cases b <;> rfl
      have := h.app (K := fun l12 w => Q (l12, ((scn wrdP s (i + 1) : Nat) : Int), ()) w) hs lxe (by show 1 < if _ then 3 else 2; split <;> omega) fun w' ts' h' => go (by omega) h'
      dsimp only at this
      rw [ek] at this
      exact this
    · intro J13 hJ13
      refine loopN (fun m sv v => ∃ (p : Nat), sv = ((p : Int), ()) ∧ p + m = s.size ∧ scn wrdP s p = scn wrdP s (i + 1) ∧ u = v) (s.size - i) ⟨i, rfl, by omega, scn_step hc (by unfold wrdP; rw [hl]; rfl), rfl⟩ ?_
      rintro m2 _ v ⟨p, rfl, hm2, hsc, rfl⟩ Q2 hQ2
      dsimp only
      refine ifd (fun hp => ?_) fun hp => ?_
      · have hp : p < s.size := by omega
        have hcp := btA_get hp
        refine ixB hcp (mwordy_spec (ifb (fun hw => ?_) fun hw => ?_))
        · refine let_ ?_
          rw [W_succ (by omega)]
          exact hQ2 (m2 - 1) _ _ (by omega) ⟨p + 1, rfl, by omega, by rw [← hsc, scn_step hcp hw], rfl⟩
        · exact hJ13 _ _ ⟨by rw [← hsc, scn_stop (.inr ⟨_, hcp, hw⟩)], rfl⟩
      · exact hJ13 _ _ ⟨by rw [← hsc, scn_stop (P := wrdP) (s := s) (i := p) (.inl (by omega))], rfl⟩
  have nl : ¬ (letP (btA s i) = true) := by rw [hl]; simp
  refine number_spec hs hlt (ifb (fun hn => ?_) fun hn => ?_)
  · have hd : digP (btA s i) = true ∨ (btA s i = 45 ∧ i + 1 < s.size ∧ digP (btA s (i + 1)) = true) := by
      rw [Bool.or_eq_true, Bool.and_eq_true, Bool.and_eq_true, beq_iff_eq, decide_eq_true_eq] at hn
      exact hn.imp_right fun h => ⟨h.1.1, h.1.2, h.2⟩
    have lxe : lx s i = if btA s i = 45 then numT true s (i + 1) else numT false s i := by rw [hlx, lxAt_num hlt hl hd]
    refine let_ ?_
    by_cases h45 : btA s i = 45
    · rw [if_pos h45] at lxe
      have hi1 : i + 1 < s.size := by
        rcases hd with hd | hd
        · have := digP_iff.1 hd; omega
        · exact hd.2.1
      have e : ((btA s i : Int) == 45) = true := by rw [beq_iff_eq]; omega
      rw [e, join_eq, if_pos rfl]
      refine let_ ?_
      rw [W_succ (by omega)]
      dsimp only
      rw [join_eq, if_pos rfl]
      dsimp only
      refine join_PP (fun x z v => x = ((scn digP s (i + 1) : Nat) : Int) ∧ z = ((numN s (i + 1) : Nat) : Int) ∧ u = v ∧ numN s (i + 1) ≤ 2 ^ 63) ?_ ?_
      · rintro _ _ _ ⟨rfl, rfl, rfl, hN⟩
        have hge := scn_ge digP s (i + 1)
        refine let_ ?_
        rw [join_eq, if_pos rfl]
        refine let_ ?_
        have ev : W (0 - W ((numN s (i + 1) : Nat) : Int)) = -((numN s (i + 1) : Nat) : Int) := by
          by_cases hm : numN s (i + 1) = 2 ^ 63
          · rw [hm]; decide
          · rw [W_id (x := ((numN s (i + 1) : Nat) : Int)) (by omega) (by omega), W_id (by omega) (by omega)]; omega
        dsimp only
        rw [ev]
        unfold numT at lxe
        rw [if_pos rfl, if_pos hN] at lxe
        exact h.app (K := fun l12 w => Q (l12, ((scn digP s (i + 1) : Nat) : Int), ()) w) hs lxe (by show 1 < 4; omega) fun w' ts' h' => go (by omega) h'
      · intro J31 hJ31
        refine mdigs_spec (K := fun w => K ⟨none, 0, 0⟩ false w) (lim := 9223372036854775808) (lz := 9223372036854775808) rfl (by omega) hs (by omega) (by omega) (fun hb => bad ?_ u h.fr) fun hb => hJ31 _ _ _ ⟨rfl, rfl, rfl, by omega⟩
        rw [lxe]
        unfold numT
        rw [if_pos rfl, if_neg (by omega)]
    · rw [if_neg h45] at lxe
      have hdi : digP (btA s i) = true := hd.resolve_right fun h => h45 h.1
      have e : ((btA s i : Int) == 45) = false := by rw [beq_eq_false_iff_ne]; omega
      rw [e, join_eq, if_neg (by simp)]
      dsimp only
      rw [join_eq, if_neg (by simp)]
      dsimp only
      refine join_PP (fun x z v => x = ((scn digP s i : Nat) : Int) ∧ z = ((numN s i : Nat) : Int) ∧ u = v ∧ numN s i < 2 ^ 63) ?_ ?_
      · rintro _ _ _ ⟨rfl, rfl, rfl, hN⟩
        have hge := scn_ge digP s (i + 1)
        have hst := scn_step hc hdi
        refine let_ ?_
        rw [join_eq, if_neg (by simp)]
        dsimp only
        rw [W_id (x := ((numN s i : Nat) : Int)) (by omega) (by omega)]
        unfold numT at lxe
        rw [if_neg (by simp), if_pos hN] at lxe
        exact h.app (K := fun l12 w => Q (l12, ((scn digP s i : Nat) : Int), ()) w) hs lxe (by show 1 < 4; omega) fun w' ts' h' => go (by omega) h'
      · intro J31 hJ31
        refine mdigs_spec (K := fun w => K ⟨none, 0, 0⟩ false w) (lim := 9223372036854775807) (lz := 9223372036854775807) rfl (by omega) hs (by omega) (by omega) (fun hb => bad ?_ u h.fr) fun hb => hJ31 _ _ _ ⟨rfl, rfl, rfl, by omega⟩
        rw [lxe]
        unfold numT
        rw [if_neg (by simp), if_neg (by omega)]
  rw [Bool.or_eq_false_iff] at hn
  have m1 : ¬ (digP (btA s i) = true) := by rw [hn.1]; simp
  have m2 : ¬ (btA s i = 45 ∧ i + 1 < s.size ∧ digP (btA s (i + 1)) = true) := fun h => by
    have := hn.2
    rw [h.1, decide_eq_true h.2.1, h.2.2] at this
    simp at this
  refine ifk (fun h39 => ?_) fun h39 => ?_
  · have h39 : btA s i = 39 := by omega
    have lxe : lx s i = (if scn (· != 39) s (i + 1) ≥ s.size then badT else (⟨5, s.extract (i + 1) (scn (· != 39) s (i + 1)), 0⟩, scn (· != 39) s (i + 1) + 1)) := by
      rw [hlx]
      unfold lxAt
      rw [if_neg (by omega), if_neg nl, if_neg m1, if_neg m2, if_pos h39]
    have hw := scn_ge (· != 39) s (i + 1)
    have hw2 := scn_le (P := (· != 39)) (s := s) (i := i + 1) (by omega)
    refine let_ ?_
    rw [W_succ (by omega)]
    refine join_P (fun jx v => jx = ((scn (· != 39) s (i + 1) : Nat) : Int) ∧ u = v) ?_ ?_
    · rintro _ _ ⟨rfl, rfl⟩
      refine ifd (fun hge => ?_) fun hge => ?_
      · exact bad (by rw [lxe, if_pos (by omega)]) u h.fr
      · rw [if_neg (by omega)] at lxe
        refine cutStr (by omega) (by omega) ?_
        have e9 : W (((scn (· != 39) s (i + 1) : Nat) : Int) + 1) = ((scn (· != 39) s (i + 1) + 1 : Nat) : Int) := W_succ (by omega)
        rw [e9]
        exact h.app (K := fun l12 w => Q (l12, ((scn (· != 39) s (i + 1) + 1 : Nat) : Int), ()) w) hs lxe (by show 1 < 5; omega) fun w' ts' h' => go (by omega) h'
    · intro J49 hJ49
      refine loopN (fun m sv v => ∃ (p : Nat), sv = ((p : Int), ()) ∧ p + m = s.size ∧ scn (· != 39) s p = scn (· != 39) s (i + 1) ∧ u = v) (s.size - (i + 1)) ⟨i + 1, rfl, by omega, rfl, rfl⟩ ?_
      rintro m2 _ v ⟨p, rfl, hm2, hsc, rfl⟩ Q2 hQ2
      dsimp only
      refine ifd (fun hp => ?_) fun hp => ?_
      · have hp : p < s.size := by omega
        have hcp := btA_get hp
        refine ixB hcp (ifnk (fun hne => ?_) fun hne => ?_)
        · refine let_ ?_
          rw [W_succ (by omega)]
          exact hQ2 (m2 - 1) _ _ (by omega) ⟨p + 1, rfl, by omega, by rw [← hsc, scn_step hcp (by simp; omega)], rfl⟩
        · have := scn_stop (P := (· != 39)) (.inr ⟨_, hcp, by simp; omega⟩)
          exact hJ49 _ _ ⟨by rw [← hsc, this], rfl⟩
      · have := scn_stop (P := (· != 39)) (s := s) (i := p) (.inl (by omega))
        exact hJ49 _ _ ⟨by rw [← hsc, this], rfl⟩
  have n39 : ¬ btA s i = 39 := by omega
  have lxe : lx s i = (if sgn2 (btA s i) = true ∧ i + 1 < s.size ∧ btA s (i + 1) = 61 then (⟨6, s.extract i (i + 2), 0⟩, i + 2)
      else if sgn1 (btA s i) then (⟨6, s.extract i (i + 1), 0⟩, i + 1) else badT) := by
    rw [hlx]
    unfold lxAt
    rw [if_neg (by omega), if_neg nl, if_neg m1, if_neg m2, if_neg n39]
  have w2 : W ((i : Int) + 2) = ((i + 2 : Nat) : Int) := by rw [W_id (by omega) (by omega)]; omega
  have w1 : W ((i : Int) + 1) = ((i + 1 : Nat) : Int) := W_succ (by omega)
  rw [w1, w2]
  refine join_W (fun v => (sgn2 (btA s i) = true ∧ i + 1 < s.size ∧ btA s (i + 1) = 61) ∧ u = v) ?_ ?_
  · rintro _ ⟨hh, rfl⟩
    rw [if_pos hh] at lxe
    refine cutStr (by omega) (by omega) ?_
    exact h.app (K := fun l12 w => Q (l12, ((i + 2 : Nat) : Int), ()) w) hs lxe (by show 1 < 6; omega) fun w' ts' h' => go (by omega) h'
  intro J2 hJ2
  refine join_W (fun v => ¬ (sgn2 (btA s i) = true ∧ i + 1 < s.size ∧ btA s (i + 1) = 61) ∧ u = v) ?_ ?_
  · rintro _ ⟨hh, rfl⟩
    rw [if_neg hh] at lxe
    refine join_W (fun v => sgn1 (btA s i) = true ∧ u = v) ?_ ?_
    · rintro _ ⟨h1, rfl⟩
      rw [if_pos h1] at lxe
      refine cutStr (by omega) (by omega) ?_
      exact h.app (K := fun l12 w => Q (l12, ((i + 1 : Nat) : Int), ()) w) hs lxe (by show 1 < 6; omega) fun w' ts' h' => go (by omega) h'
    · intro J3 hJ3
      refine ifk (fun e => hJ3 _ ⟨sgn1_true (by omega), rfl⟩) fun d1 => ifk (fun e => hJ3 _ ⟨sgn1_true (by omega), rfl⟩) fun d2 => ifk (fun e => hJ3 _ ⟨sgn1_true (by omega), rfl⟩) fun d3 => ifk (fun e => hJ3 _ ⟨sgn1_true (by omega), rfl⟩) fun d4 => ifk (fun e => hJ3 _ ⟨sgn1_true (by omega), rfl⟩) fun d5 => ifk (fun e => hJ3 _ ⟨sgn1_true (by omega), rfl⟩) fun d6 => ifk (fun e => hJ3 _ ⟨sgn1_true (by omega), rfl⟩) fun d7 => ?_
      have hf := sgn1_false (c := btA s i) (by omega) (by omega) (by omega) (by omega) (by omega) (by omega) (by omega)
      exact bad (by rw [lxe, if_neg (by rw [hf]; simp)]) u h.fr
  intro J3 hJ3
  have two : sgn2 (btA s i) = true → (if (decide (((i + 1 : Nat) : Int) < (s.size : Int))) = true then IxStr s ((i + 1 : Nat) : Int) fun c71 => if (c71 == 61) = true then J2 u else J3 u else J3 u) := fun h2 => by
    refine ifd (fun hlt2 => ?_) fun hlt2 => ?_
    · have hlt2 : i + 1 < s.size := by omega
      refine ixB (btA_get hlt2) (ifk (fun h => ?_) fun h => ?_)
      · exact hJ2 _ ⟨⟨h2, hlt2, by omega⟩, rfl⟩
      · exact hJ3 _ ⟨fun h' => by omega, rfl⟩
    · exact hJ3 _ ⟨fun h' => by omega, rfl⟩
  refine ifk (fun h => two ?_) fun h => ifk (fun h1 => two ?_) fun h1 => ifk (fun h2 => two ?_) fun h2 => hJ3 _ ⟨fun h' => ?_, rfl⟩
  · have : btA s i = 60 := by omega
    rw [this]; rfl
  · have : btA s i = 62 := by omega
    rw [this]; rfl
  · have : btA s i = 33 := by omega
    rw [this]; rfl
  · have := h'.1
    unfold sgn2 at this
    rw [Bool.or_eq_true, Bool.or_eq_true, beq_iff_eq, beq_iff_eq, beq_iff_eq] at this
    omega
end Go.Proofs.Qxb6500564aGreat
