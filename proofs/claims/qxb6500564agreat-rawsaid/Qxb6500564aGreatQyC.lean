/-
  The lexer: one token.
-/
import Derived.Test.Qxb6500564aGreatQyB
namespace Go.Proofs.Qxb6500564aGreat
open Go.Den Go.Zip
set_option linter.unusedVariables false
set_option linter.unusedSimpArgs false
variable {w w' u v : World} {i j k n a b : Nat} {s x : ByteArray}

theorem ifnk {k j : Int} {A B : Prop} (h1 : k ≠ j → A) (h2 : k = j → B) : if (k != j) = true then A else B := by
  by_cases h : k = j
  · rw [if_neg (by simp [h])]; exact h2 h
  · rw [if_pos (by simpa using h)]; exact h1 h
theorem sgn1_false {c : Nat} (h1 : c ≠ 40) (h2 : c ≠ 41) (h3 : c ≠ 44) (h4 : c ≠ 42) (h5 : c ≠ 61) (h6 : c ≠ 60) (h7 : c ≠ 62) : sgn1 c = false := by
  unfold sgn1; simp [h1, h2, h3, h4, h5, h6, h7]
theorem sgn1_true {c : Nat} (h : c = 40 ∨ c = 41 ∨ c = 44 ∨ c = 42 ∨ c = 61 ∨ c = 60 ∨ c = 62) : sgn1 c = true := by
  rcases h with rfl | rfl | rfl | rfl | rfl | rfl | rfl <;> rfl
set_option maxHeartbeats 4000000 in
theorem lex_spec {K : Int → ByteArray → Int → Int → World → Prop} (hs : s.size ≤ 256) (ha : i ≤ s.size)
    (hK : ∀ w' t, t = lx s i → Fr 0 0 w w' → K (t.1.kind : Nat) t.1.text t.1.val (t.2 : Nat) w') : S.query_lex s (i : Int) w K := by
  unfold S.query_lex
  have hbl := bt_len s
  refine newB fun w1 q1 f1 z1 => join_P (fun x u => ∃ a : Nat, x = (a : Int) ∧ a ≤ s.size ∧ a = scn blkP s i ∧ w1 = u) ?_ ?_
  · rintro _ u ⟨a, rfl, has, hae, rfl⟩
    have hK : ∀ w' t, t = lxAt s a → Fr 0 0 w w' → K (t.1.kind : Nat) t.1.text t.1.val (t.2 : Nat) w' := fun w' t ht f => hK w' t (by rw [ht, hae]; rfl) f
    refine ifd (fun hge => ?_) fun hlt => ?_
    · refine tokO q1 rfl fun w' f => ?_
      have := hK w' _ rfl (f1.thenNew f (Nat.le_refl _))
      unfold lxAt at this
      rw [if_pos (by omega)] at this
      exact this
    have hlt : a < s.size := by omega
    have hc := btA_get hlt
    refine ixB hc (let_ ?_)
    rw [W_succ (by omega)]
    refine letter_spec (ifb (fun hl => ?_) fun hl => ?_)
    · have lxe : lxAt s a = (⟨if kwP (s.extract a (scn wrdP s (a + 1))) then 3 else 2, s.extract a (scn wrdP s (a + 1)), 0⟩, scn wrdP s (a + 1)) := by
        unfold lxAt
        rw [if_neg (by omega), if_pos hl]
      have hw := scn_ge wrdP s (a + 1)
      have hw2 := scn_le (P := wrdP) (s := s) (i := a + 1) (by omega)
      refine join_P (fun x u => x = ((scn wrdP s (a + 1) : Nat) : Int) ∧ w1 = u) ?_ ?_
      · rintro _ _ ⟨rfl, rfl⟩
        refine cutStr (by omega) (by omega) (keyword_spec (ifb (fun hk => ?_) fun hk => ?_))
        · refine cutStr (by omega) (by omega) (tokO q1 rfl fun w' f => ?_)
          have := hK w' _ rfl (f1.thenNew f (Nat.le_refl _))
          rw [lxe, if_pos hk] at this
          exact this
        · refine cutStr (by omega) (by omega) (tokO q1 rfl fun w' f => ?_)
          have := hK w' _ rfl (f1.thenNew f (Nat.le_refl _))
          rw [lxe, if_neg (by rw [hk]; simp)] at this
          exact this
      · intro J hJ
        refine loopN (fun m st u => ∃ (p : Nat), st = ((p : Int), ()) ∧ p + m = s.size ∧ scn wrdP s p = scn wrdP s (a + 1) ∧ w1 = u) (s.size - (a + 1)) ⟨a + 1, rfl, by omega, rfl, rfl⟩ ?_
        rintro m _ u ⟨p, rfl, hm, hsc, rfl⟩ Q hQ
        dsimp only
        refine ifd (fun hp => ?_) fun hp => ?_
        · have hp : p < s.size := by omega
          have hcp := btA_get hp
          have go : wrdP (btA s p) = true → Q (W ((p : Int) + 1), ()) w1 := fun hw => by
            rw [W_succ (by omega)]
            exact hQ (m - 1) _ _ (by omega) ⟨p + 1, rfl, by omega, by rw [← hsc, scn_step hcp hw], rfl⟩
          refine ixB hcp (letter_spec ?_)
          rw [join_eq]
          refine ifn (fun hl => ?_) fun hl => ?_
          · refine ixB hcp (digit_spec (ifn (fun hd => ?_) fun hd => ?_))
            · have := scn_stop (P := wrdP) (.inr ⟨_, hcp, by unfold wrdP; rw [hl, hd]; rfl⟩)
              exact hJ _ _ ⟨by rw [← hsc, this], rfl⟩
            · exact go (by unfold wrdP; rw [hd, Bool.or_true])
          · exact go (by unfold wrdP; rw [hl]; rfl)
        · have := scn_stop (P := wrdP) (s := s) (i := p) (.inl (by omega))
          exact hJ _ _ ⟨by rw [← hsc, this], rfl⟩
    · have nl : ¬ (letP (btA s a) = true) := by rw [hl]; simp
      refine digit_spec ?_
      refine join_P (fun x u => x = (digP (btA s a) || (btA s a == 45 && decide (a + 1 < s.size) && digP (btA s (a + 1)))) ∧ w1 = u) ?_ ?_
      · rintro _ _ ⟨rfl, rfl⟩
        refine ifb (fun hn => ?_) fun hn => ?_
        · have hd : digP (btA s a) = true ∨ (btA s a = 45 ∧ a + 1 < s.size ∧ digP (btA s (a + 1)) = true) := by
            rw [Bool.or_eq_true, Bool.and_eq_true, Bool.and_eq_true, beq_iff_eq, decide_eq_true_eq] at hn
            exact hn.imp_right fun h => ⟨h.1.1, h.1.2, h.2⟩
          refine lexInt_spec hs hlt (fun e => ?_) fun w2 t ht f2 => ?_
          · rcases hd with h | h
            · have := digP_iff.1 h; omega
            · exact h.2.1
          · refine tokO (Blk.fr q1 f2 (by omega)) rfl fun w' f => ?_
            exact hK w' t (by rw [ht, lxAt_num hlt hl hd]) ((f1.trans f2).thenNew f (Nat.le_refl _))
        · rw [Bool.or_eq_false_iff] at hn
          have n1 : ¬ (digP (btA s a) = true) := by rw [hn.1]; simp
          have n2 : ¬ (btA s a = 45 ∧ a + 1 < s.size ∧ digP (btA s (a + 1)) = true) := fun h => by
            have := hn.2
            rw [h.1, decide_eq_true h.2.1, h.2.2] at this
            simp at this
          refine ifk (fun h39 => ?_) fun h39 => ?_
          · have h39 : btA s a = 39 := by omega
            have lxe : lxAt s a = (if scn (· != 39) s (a + 1) ≥ s.size then badT else (⟨5, s.extract (a + 1) (scn (· != 39) s (a + 1)), 0⟩, scn (· != 39) s (a + 1) + 1)) := by
              unfold lxAt
              rw [if_neg (by omega), if_neg nl, if_neg n1, if_neg n2, if_pos h39]
            have hw := scn_ge (· != 39) s (a + 1)
            have hw2 := scn_le (P := (· != 39)) (s := s) (i := a + 1) (by omega)
            refine join_P (fun x u => x = ((scn (· != 39) s (a + 1) : Nat) : Int) ∧ w1 = u) ?_ ?_
            · rintro _ _ ⟨rfl, rfl⟩
              refine ifd (fun hge => ?_) fun hge => ?_
              · refine tokO q1 rfl fun w' f => ?_
                have := hK w' _ rfl (f1.thenNew f (Nat.le_refl _))
                rw [lxe, if_pos (by omega)] at this
                exact this
              · have e9 : W (((scn (· != 39) s (a + 1) : Nat) : Int) + 1) = ((scn (· != 39) s (a + 1) + 1 : Nat) : Int) := W_succ (by omega)
                rw [e9]
                refine cutStr (by omega) (by omega) (tokO q1 rfl fun w' f => ?_)
                have := hK w' _ rfl (f1.thenNew f (Nat.le_refl _))
                rw [lxe, if_neg (by omega)] at this
                exact this
            · intro J hJ
              refine loopN (fun m st u => ∃ (p : Nat), st = ((p : Int), ()) ∧ p + m = s.size ∧ scn (· != 39) s p = scn (· != 39) s (a + 1) ∧ w1 = u) (s.size - (a + 1)) ⟨a + 1, rfl, by omega, rfl, rfl⟩ ?_
              rintro m _ u ⟨p, rfl, hm, hsc, rfl⟩ Q hQ
              dsimp only
              refine ifd (fun hp => ?_) fun hp => ?_
              · have hp : p < s.size := by omega
                have hcp := btA_get hp
                refine ixB hcp (ifnk (fun hne => ?_) fun hne => ?_)
                · refine let_ ?_
                  rw [W_succ (by omega)]
                  exact hQ (m - 1) _ _ (by omega) ⟨p + 1, rfl, by omega, by rw [← hsc, scn_step hcp (by simp; omega)], rfl⟩
                · have := scn_stop (P := (· != 39)) (.inr ⟨_, hcp, by simp; omega⟩)
                  exact hJ _ _ ⟨by rw [← hsc, this], rfl⟩
              · have := scn_stop (P := (· != 39)) (s := s) (i := p) (.inl (by omega))
                exact hJ _ _ ⟨by rw [← hsc, this], rfl⟩
          · have n39 : ¬ btA s a = 39 := by omega
            have lxe : lxAt s a = (if sgn2 (btA s a) = true ∧ a + 1 < s.size ∧ btA s (a + 1) = 61 then (⟨6, s.extract a (a + 2), 0⟩, a + 2)
                else if sgn1 (btA s a) then (⟨6, s.extract a (a + 1), 0⟩, a + 1) else badT) := by
              unfold lxAt
              rw [if_neg (by omega), if_neg nl, if_neg n1, if_neg n2, if_neg n39]
            refine join_P (fun x u => (∃ e : Nat, x = (e : Int) ∧ e ≤ s.size ∧ a ≤ e ∧ lxAt s a = (⟨6, s.extract a e, 0⟩, e)) ∧ w1 = u) ?_ ?_
            · rintro _ _ ⟨⟨e, rfl, he1, he2, hle⟩, rfl⟩
              refine cutStr (by omega) (by omega) (tokO q1 rfl fun w' f => ?_)
              have := hK w' _ rfl (f1.thenNew f (Nat.le_refl _))
              rw [hle] at this
              exact this
            · intro J hJ
              refine join_W (fun u => (sgn2 (btA s a) = true ∧ a + 1 < s.size ∧ btA s (a + 1) = 61) ∧ w1 = u) ?_ ?_
              · rintro _ ⟨h2, rfl⟩
                refine let_ ?_
                rw [W_succ (by omega)]
                exact hJ _ _ ⟨⟨a + 2, rfl, by omega, by omega, by rw [lxe, if_pos h2]⟩, rfl⟩
              · intro J2 hJ2
                refine join_W (fun u => ¬ (sgn2 (btA s a) = true ∧ a + 1 < s.size ∧ btA s (a + 1) = 61) ∧ w1 = u) ?_ ?_
                · rintro _ ⟨h2, rfl⟩
                  have one : sgn1 (btA s a) = true → J ((a + 1 : Nat) : Int) w1 := fun h1 => hJ _ _ ⟨⟨a + 1, rfl, by omega, by omega, by rw [lxe, if_neg h2, if_pos h1]⟩, rfl⟩
                  refine ifnk (fun h1 => ifnk (fun h3 => ifnk (fun h4 => ifnk (fun h5 => ifnk (fun h6 => ifnk (fun h7 => ifnk (fun h8 => ?_) fun e => one (sgn1_true (by omega))) fun e => one (sgn1_true (by omega))) fun e => one (sgn1_true (by omega))) fun e => one (sgn1_true (by omega))) fun e => one (sgn1_true (by omega))) fun e => one (sgn1_true (by omega))) fun e => one (sgn1_true (by omega))
                  have hf := sgn1_false (c := btA s a) (by omega) (by omega) (by omega) (by omega) (by omega) (by omega) (by omega)
                  refine tokO q1 rfl fun w' f => ?_
                  have := hK w' _ rfl (f1.thenNew f (Nat.le_refl _))
                  rw [lxe, if_neg h2, if_neg (by rw [hf]; simp)] at this
                  exact this
                · intro J3 hJ3
                  have two : sgn2 (btA s a) = true → (if (decide (((a + 1 : Nat) : Int) < (s.size : Int))) = true then IxStr s ((a + 1 : Nat) : Int) fun c71 => if (c71 == 61) = true then J2 w1 else J3 w1 else J3 w1) := fun h2 => by
                    refine ifd (fun hlt2 => ?_) fun hlt2 => ?_
                    · have hlt2 : a + 1 < s.size := by omega
                      refine ixB (btA_get hlt2) (ifk (fun h => ?_) fun h => ?_)
                      · exact hJ2 _ ⟨⟨h2, hlt2, by omega⟩, rfl⟩
                      · exact hJ3 _ ⟨fun h' => by omega, rfl⟩
                    · exact hJ3 _ ⟨fun h' => by omega, rfl⟩
                  refine ifk (fun h => two ?_) fun h => ifk (fun h1 => two ?_) fun h1 => ifk (fun h2 => two ?_) fun h2 => hJ3 _ ⟨fun h' => ?_, rfl⟩
                  · have : btA s a = 60 := by omega
                    rw [this]; rfl
                  · have : btA s a = 62 := by omega
                    rw [this]; rfl
                  · have : btA s a = 33 := by omega
                    rw [this]; rfl
                  · have := h'.1
                    unfold sgn2 at this
                    rw [Bool.or_eq_true, Bool.or_eq_true, beq_iff_eq, beq_iff_eq, beq_iff_eq] at this
                    omega
      · intro J hJ
        refine ifn (fun hd => ?_) fun hd => ?_
        · refine ifk (fun h45 => ?_) fun h45 => ?_
          · have h45 : btA s a = 45 := by omega
            refine ifd (fun hlt2 => ?_) fun hlt2 => ?_
            · have hlt2 : a + 1 < s.size := by omega
              exact ixB (btA_get hlt2) (digit_spec (hJ _ _ ⟨by rw [hd, h45, decide_eq_true hlt2]; simp, rfl⟩))
            · exact hJ _ _ ⟨by rw [hd, decide_eq_false (show ¬ a + 1 < s.size by omega)]; simp, rfl⟩
          · have n45 : (btA s a == 45) = false := by rw [beq_eq_false_iff_ne]; omega
            exact hJ _ _ ⟨by rw [hd, n45]; rfl, rfl⟩
        · exact hJ _ _ ⟨by rw [hd]; rfl, rfl⟩
  · intro J hJ
    refine loopN (fun m st u => ∃ (p : Nat), st = ((p : Int), ()) ∧ p + m = s.size ∧ scn blkP s p = scn blkP s i ∧ w1 = u) (s.size - i) ⟨i, rfl, by omega, rfl, rfl⟩ ?_
    rintro m _ u ⟨p, rfl, hm, hsc, rfl⟩ Q hQ
    dsimp only
    refine ifd (fun hp => ?_) fun hp => ?_
    · have hp : p < s.size := by omega
      have hcp := btA_get hp
      refine ixB hcp (blank_spec (ifb (fun hb => ?_) fun hb => ?_))
      · refine let_ ?_
        rw [W_succ (by omega)]
        exact hQ (m - 1) _ _ (by omega) ⟨p + 1, rfl, by omega, by rw [← hsc, scn_step hcp hb], rfl⟩
      · exact hJ _ _ ⟨p, rfl, by omega, by rw [← hsc, scn_stop (.inr ⟨_, hcp, hb⟩)], rfl⟩
    · exact hJ _ _ ⟨p, rfl, by omega, by rw [← hsc, scn_stop (.inl (by omega))], rfl⟩
end Go.Proofs.Qxb6500564aGreat
