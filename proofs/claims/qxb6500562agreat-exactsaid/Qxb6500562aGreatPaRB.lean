/-
  The real parser: types, expressions.
-/
import Derived.Test.Qxb6500562aGreatPaRA
namespace Go.Proofs.Qxb6500562aGreat
open Go.Den Go.Zip
set_option linter.unusedVariables false
set_option linter.unusedSimpArgs false
variable {α β : Type} {T : List Tok} {w0 w w' : World} {P : Nat → Prop} {p tb ar lx q : Nat} {L : List (Nat × List Value)} {vs : List Value}

theorem rtyp {x : α} {st : PS} {K : Int → World → Prop} (h : PQ T w0 P p tb ar lx (.ok (x, st) : PR α) L w) (hK : ∀ r w', PQ T w0 P p tb ar lx (pTyp T st) L w' → Rv (pTyp T st) r → K r w') : S.parse_Parser_typ p w K := by
  unfold S.parse_Parser_typ
  refine join_P (fun (dims : Int) u => ∃ (d : Nat) (s1 : PS), dims = d ∧ d ≤ 3 ∧ tyOpen T 3 st = .ok (d, s1) ∧ PQ T w0 P p tb ar lx (.ok ((), s1) : PR Unit) L u) ?_ ?_
  · rintro _ u ⟨d, s1, rfl, hd, e1, h1⟩
    have ebad : ∀ q, tyBase T s1 = .error q → pTyp T st = .error q := fun q e => by unfold pTyp; rw [e1]; simp only [bnd_ok]; rw [e]; rfl
    refine rkind h1 fun w2 h2 => ?_
    refine join_P (fun (t : Int) u => ∃ s2, 0 ≤ t ∧ t ≤ 1 ∧ tyBase T s1 = .ok (t, s2) ∧ PQ T w0 P p tb ar lx (.ok ((), s2) : PR Unit) L u) ?_ ?_
    · rintro t u ⟨s2, t0, t1, e2, h2⟩
      have etop : pTyp T st = bnd (tyClose T d s2) fun _ s => .ok (t + 2 * d, s) := by unfold pTyp; rw [e1]; simp only [bnd_ok]; rw [e2]; rfl
      refine join_W (fun u => ∃ s3, tyClose T d s2 = .ok ((), s3) ∧ PQ T w0 P p tb ar lx (.ok ((), s3) : PR Unit) L u) ?_ ?_
      · rintro u ⟨s3, e3, h3⟩
        rw [e3] at etop
        rw [W_id (x := 2 * (d : Int)) (by omega) (by omega), W_id (by omega) (by omega)]
        exact hK _ u (by rw [etop]; exact h3.okv) (by rw [etop]; rfl)
      · intro J4 hJ4
        refine loopN (fun m v u => ∃ (k : Nat) (s3 : PS), v = ((k : Int), ()) ∧ k ≤ d ∧ m = d - k ∧ PQ T w0 P p tb ar lx (.ok ((), s3) : PR Unit) L u ∧ tyClose T d s2 = tyClose T (d - k) s3) d
          ⟨0, s2, rfl, by omega, by omega, h2, rfl⟩ ?_
        rintro m _ u ⟨k, s3, rfl, hk, rfl, h3, he⟩ Q hQ
        dsimp only
        by_cases hkd : k < d
        · rw [if_pos (by simp only [decide_eq_true_eq]; omega)]
          have he' : tyClose T d s2 = bnd (pTake T 22 s3) fun _ s => tyClose T (d - (k + 1)) s := by
            rw [he, show d - k = (d - (k + 1)) + 1 by omega]; rfl
          refine rtake h3 (by omega) (fun w7 e7 h7 => ?_) (fun w7 q e7 h7 => ?_)
          · rw [if_neg (by simp)]
            refine let_ ?_
            rw [W_succ (by omega)]
            exact hQ _ _ w7 (by omega) ⟨k + 1, _, rfl, by omega, rfl, h7, by rw [he', e7]; rfl⟩
          · rw [if_pos (by simp)]
            rw [he', e7] at etop
            exact hK _ w7 (by rw [etop]; exact h7.errv) (by rw [etop]; rfl)
        · rw [if_neg (by simp only [decide_eq_true_eq]; omega)]
          rw [show d - k = 0 by omega] at he
          exact hJ4 u ⟨s3, he, h3⟩
    · intro J9 hJ9
      by_cases h16 : knd T s1.1 = 16
      · rw [if_pos (by simp [h16])]
        refine rstep h2 (by omega) fun w3 h3 => ?_
        exact hJ9 1 w3 ⟨_, by omega, by omega, by unfold tyBase; rw [if_pos h16], h3⟩
      · rw [if_neg (by simpa using h16)]
        have eb : tyBase T s1 = bnd (pTake T 15 s1) fun _ s => .ok (0, s) := by unfold tyBase; rw [if_neg h16]
        refine rtake h2 (by omega) (fun w7 e7 h7 => ?_) (fun w7 q e7 h7 => ?_)
        · rw [if_neg (by simp)]
          exact hJ9 0 w7 ⟨_, by omega, by omega, by rw [eb, e7]; rfl, h7⟩
        · rw [if_pos (by simp)]
          have e := ebad q (by rw [eb, e7]; rfl)
          exact hK _ w7 (by rw [e]; exact h7.errv) (by rw [e]; rfl)
  · intro J11 hJ11
    refine loopN (fun m v u => ∃ (d : Nat) (s1 : PS), v = ((d : Int), ()) ∧ d ≤ 3 ∧ m = 3 - d ∧ PQ T w0 P p tb ar lx (.ok ((), s1) : PR Unit) L u ∧ tyOpen T 3 st = bnd (tyOpen T (3 - d) s1) fun k s => .ok (d + k, s)) 3
      ⟨0, st, rfl, by omega, by omega, h.okv, ?_⟩ ?_
    · simp only [Nat.zero_add, Nat.sub_zero]
      rcases tyOpen T 3 st with q | ⟨y, s⟩ <;> rfl
    rintro m _ u ⟨d, s1, rfl, hd, rfl, h1, he⟩ Q hQ
    dsimp only
    refine rkind h1 fun w2 h2 => ?_
    by_cases hk : knd T s1.1 = 21
    · rw [if_pos (by simp [hk])]
      by_cases hd3 : d = 3
      · rw [if_pos (by simp only [decide_eq_true_eq]; omega)]
        have e : pTyp T st = .error (11, psn T s1.1) := by
          unfold pTyp
          rw [he, hd3]
          show bnd (bnd (tyOpen T 0 s1) _) _ = _
          unfold tyOpen
          rw [if_pos hk]; rfl
        refine rat h2 fun w3 h3 => ?_
        refine rfail (β := Int) h3 (by omega) fun w4 h4 => ?_
        exact hK _ w4 (by rw [e]; exact h4) (by rw [e]; rfl)
      · rw [if_neg (by simp only [decide_eq_true_eq]; omega)]
        refine let_ ?_
        refine rstep h2 (by omega) fun w3 h3 => ?_
        rw [W_succ (by omega)]
        refine hQ _ _ w3 (by omega) ⟨d + 1, _, rfl, by omega, rfl, h3, ?_⟩
        rw [he, show 3 - d = (3 - (d + 1)) + 1 by omega]
        conv => lhs; unfold tyOpen
        rw [if_pos hk, bnd_assoc]
        congr 1
        funext x s
        simp only [bnd_ok]
        rw [Nat.add_assoc, Nat.add_comm 1 x]
    · rw [if_neg (by simpa using hk)]
      refine hJ11 _ w2 ⟨d, s1, rfl, hd, ?_, h2⟩
      rw [he]
      have : tyOpen T (3 - d) s1 = .ok (0, s1) := by
        cases h3 : 3 - d with
        | zero => unfold tyOpen; rw [if_neg hk]
        | succ n => unfold tyOpen; rw [if_neg hk]
      rw [this]; rfl
theorem if_q {k a : Int} {P Q : Prop} (h1 : k = a → P) (h2 : k ≠ a → Q) : if (k == a) = true then P else Q := by
  by_cases h : k = a
  · rw [if_pos (by simp [h])]; exact h1 h
  · rw [if_neg (by simpa using h)]; exact h2 h
theorem rpower {k : Int} {K : Int → World → Prop} (hK : K (power k) w) : S.parse_power k w K := by
  unfold S.parse_power
  have key : ∀ m : Nat, power k = m → K (m : Int) w := fun m e => by rw [← e]; exact hK
  have hp : power k = if k = 38 then 1 else if k = 37 then 2 else if 26 ≤ k ∧ k ≤ 31 then 3 else if k = 32 ∨ k = 33 then 4 else if k = 34 ∨ k = 35 ∨ k = 36 then 5 else 0 := rfl
  have kk : ∀ m : Nat, (if k = 38 then 1 else if k = 37 then 2 else if 26 ≤ k ∧ k ≤ 31 then 3 else if k = 32 ∨ k = 33 then 4 else if k = 34 ∨ k = 35 ∨ k = 36 then 5 else 0) = m → K (m : Int) w := fun m e => key m (hp.trans e)
  refine if_q (fun e => kk 1 (by rw [if_pos e])) fun n38 => ?_
  refine if_q (fun e => kk 2 (by rw [if_neg n38, if_pos e])) fun n37 => ?_
  refine join_P (fun (j : Bool) u => u = w ∧ (j = true ↔ 26 ≤ k ∧ k ≤ 31)) ?_ ?_
  · rintro j u ⟨rfl, hj⟩
    by_cases h3 : 26 ≤ k ∧ k ≤ 31
    · rw [if_pos (hj.2 h3)]
      exact kk 3 (by rw [if_neg n38, if_neg n37, if_pos h3])
    rw [if_neg (fun e => h3 (hj.1 e))]
    refine join_P (fun (j : Bool) v => v = u ∧ (j = true ↔ k = 32 ∨ k = 33)) ?_ ?_
    · rintro j v ⟨rfl, hj⟩
      by_cases h4 : k = 32 ∨ k = 33
      · rw [if_pos (hj.2 h4)]
        exact kk 4 (by rw [if_neg n38, if_neg n37, if_neg h3, if_pos h4])
      rw [if_neg (fun e => h4 (hj.1 e))]
      refine join_P (fun (j : Bool) u => u = v ∧ (j = true ↔ k = 34 ∨ k = 35 ∨ k = 36)) ?_ ?_
      · rintro j u ⟨rfl, hj⟩
        by_cases h5 : k = 34 ∨ k = 35 ∨ k = 36
        · rw [if_pos (hj.2 h5)]
          exact kk 5 (by rw [if_neg n38, if_neg n37, if_neg h3, if_neg h4, if_pos h5])
        · rw [if_neg (fun e => h5 (hj.1 e))]
          exact kk 0 (by rw [if_neg n38, if_neg n37, if_neg h3, if_neg h4, if_neg h5])
      · intro J hJ
        refine if_q (fun e => hJ _ _ ⟨rfl, by simp [e]⟩) fun n => ?_
        refine if_q (fun e => hJ _ _ ⟨rfl, by simp [e]⟩) fun n2 => hJ _ _ ⟨rfl, by simp [n, n2]⟩
    · intro J hJ
      refine if_q (fun e => hJ _ _ ⟨rfl, by simp [e]⟩) fun n => hJ _ _ ⟨rfl, by simp [n]⟩
  · intro J hJ
    refine if_q (fun e => hJ _ _ ⟨rfl, by simp [e]⟩) fun n1 => ?_
    refine if_q (fun e => hJ _ _ ⟨rfl, by simp [e]⟩) fun n2 => ?_
    refine if_q (fun e => hJ _ _ ⟨rfl, by simp [e]⟩) fun n3 => ?_
    refine if_q (fun e => hJ _ _ ⟨rfl, by simp [e]⟩) fun n4 => ?_
    refine if_q (fun e => hJ _ _ ⟨rfl, by simp [e]⟩) fun n5 => hJ _ _ ⟨rfl, by simp only [beq_iff_eq]; omega⟩
/-- R serves f with l levels left, where nothing has failed. -/
def Sq (T : List Tok) (w0 : World) (P : Nat → Prop) (p tb ar lx : Nat) (R : R1) (l : Nat) (f : PS → PR Int) : Prop :=
  ∀ L st w K, PQ T w0 P p tb ar lx (.ok ((), st) : PR Unit) L w → (∀ r w', PQ T w0 P p tb ar lx (f st) L w' → Rv (f st) r → K r w') → R p (l : Int) w K
abbrev R2 := Nat → Int → Int → World → (Int → World → Prop) → Prop
def SqB (T : List Tok) (w0 : World) (P : Nat → Prop) (p tb ar lx : Nat) (R : R2) (l m : Nat) : Prop :=
  ∀ L st w K, PQ T w0 P p tb ar lx (.ok ((), st) : PR Unit) L w → (∀ r w', PQ T w0 P p tb ar lx (climb T (pU T l) m st) L w' → Rv (climb T (pU T l) m st) r → K r w') → R p (m : Int) (l : Int) w K
/-- So behind a failure too. -/
def Sg (T : List Tok) (w0 : World) (P : Nat → Prop) (p tb ar lx : Nat) (R : R1) (l : Nat) (f : PS → PR Int) : Prop :=
  Sq T w0 P p tb ar lx R l f ∧ ∀ L e w K, PQ T w0 P p tb ar lx (.error e : PR Unit) L w → (∀ w', PQ T w0 P p tb ar lx (.error e : PR Int) L w' → K (-1) w') → R p (l : Int) w K
theorem rdeep {l : Nat} (h : l ≤ 8) : W (((l + 1 : Nat) : Int) - 1) = (l : Int) := by rw [W_id (by omega) (by omega)]; omega
theorem rbin_body {Rb : R2} {Ru Rp Rpr Rbr Ra : R1} {l m : Nat} {st : PS} {K : Int → World → Prop} (hl : l ≤ 8) (hm : 1 ≤ m) (hm6 : m ≤ 6)
    (hu : Sq T w0 P p tb ar lx Ru l (pU T l)) (hb : ∀ m', m < m' → m' ≤ 6 → SqB T w0 P p tb ar lx Rb l m') (h : PQ T w0 P p tb ar lx (.ok ((), st) : PR Unit) L w)
    (hK : ∀ r w', PQ T w0 P p tb ar lx (climb T (pU T l) m st) L w' → Rv (climb T (pU T l) m st) r → K r w') : B.parse_Parser_binary Rb Ru Rp Rpr Rbr Ra p (m : Int) (l : Int) w K := by
  unfold B.parse_Parser_binary
  refine hu L st w _ h fun r1 w1 h1 hr1 => ?_
  have etop : climb T (pU T l) m st = bnd (pU T l st) fun y s => cl T (pU T l) (T.length + 1) m y s := rfl
  rw [etop] at hK
  generalize pU T l st = o1 at *
  generalize htg : (bnd o1 fun x s => cl T (pU T l) (T.length + 1) m x s) = tg at *
  refine loopN (fun n v u => ∃ (x : Int) (o2 : PR Int), v = (x, ()) ∧ PQ T w0 P p tb ar lx o2 L u ∧ (bnd o2 fun x s => cl T (pU T l) (T.length + 1) m x s) = tg ∧ Rv o2 x ∧ (∀ y st', o2 = .ok (y, st') → n = T.length - st'.1)) (match o1 with | .ok (_, st) => T.length - st.1 | .error _ => 0)
    ⟨r1, o1, rfl, h1, htg, hr1, fun y st' e => by subst e; rfl⟩ ?_
  rintro n _ u ⟨x, o2, rfl, h2, he2, hv, hn⟩ Q hQ
  dsimp only
  refine h2.flag (fun e heq => ?_) (fun y st heq => ?_)
  · subst heq
    rw [if_neg (by simp)]
    exact hK _ u (h2.conv he2) (by rw [← he2]; exact hv)
  subst heq
  have hx : x = y := hv
  subst hx
  have hn := hn _ _ rfl
  subst hn
  have hlt := h2.lt
  rw [if_pos (by rfl)]
  refine rkind h2 fun w3 h3 => ?_
  refine rpower ?_
  simp only [bnd_ok] at he2
  have hp5 := power_le (knd T st.1)
  by_cases hk : power (knd T st.1) < m
  · rw [if_pos (by simp only [decide_eq_true_eq]; omega)]
    rw [cl_stop hk] at he2
    exact hK _ w3 (h3.conv he2) (by rw [← he2]; rfl)
  · rw [if_neg (by simp only [decide_eq_true_eq]; omega)]
    rw [cl_step (adv_U l) hm (by omega) hk] at he2
    refine rat h3 fun w4 h4 => ?_
    refine fresh_spec fun w6 f6 => ?_
    refine (h4.ext f6).node (n := nd0 18 (psn T st.1)) fun q w7 h7 => ?_
    refine h7.st1 (by simp [ndV]) fun w8 h8 => ?_
    refine rstep h8 (power_zero hk hm) fun w9 h9 => ?_
    refine h9.st1 (by simp [ndV]) fun w10 h10 => ?_
    rw [W_succ (by omega)]
    refine hb _ (by omega) (by omega) _ _ w10 _ h10.okv fun r17 w11 h11 hr11 => ?_
    refine h11.st1 (by simp [ndV]) fun w12 h12 => ?_
    refine ldNode (n := { nd0 18 (psn T st.1) with a := x, b := r17, val := knd T st.1 }) h12.loc ?_
    have hadv := adv_climb (adv_U (T := T) l) (m := power (knd T st.1) + 1) (by omega) (st.1 + 1, st.2)
    rcases ho : climb T (pU T l) (power (knd T st.1) + 1) (st.1 + 1, st.2) with e | ⟨b, s⟩
    · rw [ho] at h12 he2
      refine radd_err h12.tail fun w13 h13 => ?_
      exact hQ 0 _ w13 (by omega) ⟨-1, .error e, rfl, h13, he2, rfl, fun y st' e => by cases e⟩
    · rw [ho] at h12 he2 hr11
      have hb1 : r17 = b := hr11
      subst hb1
      have ha := hadv _ _ ho
      refine radd h12.tail fun r26 w13 h13 hr13 => ?_
      simp only [bnd_ok] at he2
      rcases ho2 : pAdd { nd0 18 (psn T st.1) with a := x, b := r17, val := knd T st.1 } s with e | ⟨y, s'⟩
      · rw [ho2] at h13 he2 hr13
        exact hQ 0 _ w13 (by omega) ⟨r26, _, rfl, h13, he2, hr13, fun y st' e => by cases e⟩
      · have ha2 := fwd_add (T := T) _ _ _ _ ho2
        rw [ho2] at h13 he2 hr13
        have := h13.lt
        dsimp only at ha
        exact hQ (T.length - s'.1) _ w13 (by omega) ⟨r26, _, rfl, h13, he2, hr13, fun y2 st2 e2 => by cases e2; rfl⟩
/-- The unary operators from i on, m of them, around an operand. -/
def wr (T : List Tok) (i : Nat) : Nat → PR Int → PR Int
  | 0, o => o
  | m + 1, o => wr T i m (bnd o fun x s => pAdd { nd0 19 (psn T (i + m)) with a := x, val := knd T (i + m) } s)
theorem wr_err (T : List Tok) (i : Nat) (e : Int × Int) : ∀ m, wr T i m (.error e) = .error e
  | 0 => rfl
  | m + 1 => wr_err T i e m
theorem run_body {Rb : R2} {Ru Rp Rpr Rbr Ra : R1} {l : Nat} {st : PS} {K : Int → World → Prop} (hl : l ≤ 8)
    (hp : ∀ l', l' ≤ l → Sq T w0 P p tb ar lx Rp l' (pPost T (subOf T l'))) (h : PQ T w0 P p tb ar lx (.ok ((), st) : PR Unit) L w)
    (hK : ∀ r w', PQ T w0 P p tb ar lx (pU T l st) L w' → Rv (pU T l st) r → K r w') : B.parse_Parser_unary Rb Ru Rp Rpr Rbr Ra p (l : Int) w K := by
  unfold B.parse_Parser_unary
  refine ldI h.st.2.2.1 rfl ?_
  refine rkind h fun w1 h1 => ?_
  have hle := h.tok.le
  refine join_P (fun (left : Int) u => ∃ l' m : Nat, left = l' ∧ l' + m = l ∧ PQ T w0 P p tb ar lx (.ok ((), st.1 + m, st.2) : PR Unit) L u ∧ pU T l st = wr T st.1 m (pU T l' (st.1 + m, st.2)) ∧ ¬ (knd T (st.1 + m) = 33 ∨ knd T (st.1 + m) = 39)) ?_ ?_
  · rintro _ u ⟨l', m, rfl, hlm, hu, heq, hk⟩
    have e1 : pU T l' (st.1 + m, st.2) = pPost T (subOf T l') (st.1 + m, st.2) := by unfold pU pUn; rw [if_neg hk]
    rw [e1] at heq
    refine ldI hu.st.2.2.1 rfl ?_
    have hul := hu.lt
    refine hp l' (by omega) L _ u _ hu fun r5 w2 h2 hr5 => ?_
    refine let_ ?_
    have hpadv := adv_post (adv_sub (T := T) l') (st.1 + m, st.2)
    generalize pPost T (subOf T l') (st.1 + m, st.2) = o0 at *
    dsimp only at hul
    rw [W_id (by omega) (by omega)]
    refine loopN (fun n v u => ∃ (x : Int) (j : Nat) (o2 : PR Int), v = (x, ((st.1 + j : Nat) : Int) - 1, ()) ∧ j ≤ m ∧ n = j ∧ PQ T w0 P p tb ar lx o2 L u ∧ wr T st.1 j o2 = pU T l st ∧ Rv o2 x) m
      ⟨r5, m, o0, rfl, by omega, rfl, h2, heq.symm, hr5⟩ ?_
    rintro n _ u ⟨x, j, o2, rfl, hj, rfl, hu2, he2, hv⟩ Q hQ
    dsimp only
    cases n with
    | zero =>
      rw [if_neg (by simp only [decide_eq_true_eq]; omega)]
      have he2 : o2 = pU T l st := he2
      exact hK x u (hu2.conv he2) (by rw [← he2]; exact hv)
    | succ j =>
      rw [if_pos (by simp only [decide_eq_true_eq]; omega)]
      refine hu2.flag (fun e heq => ?_) (fun y s heq => ?_)
      · subst heq
        rw [if_neg (by simp)]
        rw [wr_err] at he2
        exact hK x u (hu2.conv he2) (by rw [← he2]; exact hv)
      · subst heq
        have hx : x = y := hv
        subst hx
        rw [if_pos (by rfl)]
        rw [show (((st.1 + (j + 1) : Nat) : Int) - 1) = ((st.1 + j : Nat) : Int) by omega]
        refine ldS hu2.st.2.2.1 rfl ?_
        refine ix rfl (by omega) (by dsimp only; omega) ?_
        refine ldI hu2.toks (m := psn T (st.1 + j)) ((tokCell (k := 1) (by omega) (by omega)).trans rfl) ?_
        refine fresh_spec fun w6 f6 => ?_
        refine (hu2.ext f6).node (n := nd0 19 (psn T (st.1 + j))) fun q w7 h7 => ?_
        refine ldS h7.st.2.2.1 rfl ?_
        refine ix rfl (by omega) (by dsimp only; omega) ?_
        refine ldI h7.toks (m := knd T (st.1 + j)) ((tokCell (k := 0) (by omega) (by omega)).trans rfl) ?_
        refine h7.st1 (by simp [ndV]) fun w8 h8 => ?_
        refine h8.st1 (by simp [ndV]) fun w9 h9 => ?_
        refine ldNode (n := { nd0 19 (psn T (st.1 + j)) with a := x, val := knd T (st.1 + j) }) h9.loc ?_
        refine radd h9.tail fun r35 w10 h10 hr10 => ?_
        refine let_ ?_
        rw [W_id (by omega) (by omega)]
        refine hQ j _ w10 (by omega) ⟨r35, j, _, rfl, by omega, rfl, h10, ?_, hr10⟩
        exact he2
  · intro J37 hJ37
    refine loopN (fun n v u => ∃ l' m : Nat, v = ((l' : Int), knd T (st.1 + m), ()) ∧ l' + m = l ∧ n = l' ∧ PQ T w0 P p tb ar lx (.ok ((), st.1 + m, st.2) : PR Unit) L u ∧ pU T l st = wr T st.1 m (pU T l' (st.1 + m, st.2))) l
      ⟨l, 0, rfl, by omega, rfl, h1, rfl⟩ ?_
    rintro n _ u ⟨l', m, rfl, hlm, rfl, hu, heq⟩ Q hQ
    dsimp only
    refine join_W (fun v => PQ T w0 P p tb ar lx (.ok ((), st.1 + m, st.2) : PR Unit) L v ∧ (knd T (st.1 + m) = 33 ∨ knd T (st.1 + m) = 39)) ?_ ?_
    · rintro v ⟨hv, hk⟩
      refine ropen hv (fun hl0 => ?_) (fun w2 hl0 h2 => ?_)
      · rw [if_neg (by simp)]
        cases n with
        | zero => omega
        | succ l1 =>
          refine let_ ?_
          rw [rdeep (by omega)]
          refine rstep hv (by dsimp only; omega) fun w2 h2 => ?_
          refine rkind h2 fun w3 h3 => ?_
          refine hQ l1 _ w3 (by omega) ⟨l1, m + 1, rfl, by omega, rfl, h3, ?_⟩
          rw [heq]
          have : pU T (l1 + 1) (st.1 + m, st.2) = bnd (pU T l1 (st.1 + m + 1, st.2)) fun x s => pAdd { nd0 19 (psn T (st.1 + m)) with a := x, val := knd T (st.1 + m) } s := by
            conv => lhs; unfold pU pUn
            rw [if_pos hk, subOf_succ]
          rw [this]
          rfl
      · rw [if_pos (by simp)]
        have hl1 : n = 0 := by omega
        subst hl1
        have e : pU T l st = .error (11, psn T (st.1 + m)) := by
          rw [heq]
          have : pU T 0 (st.1 + m, st.2) = .error (11, psn T (st.1 + m)) := by unfold pU pUn; rw [if_pos hk]; rfl
          rw [this, wr_err]
        exact hK _ w2 (by rw [e]; exact h2) (by rw [e]; rfl)
    · intro J43 hJ43
      by_cases h33 : knd T (st.1 + m) = 33
      · rw [if_pos (by simp [h33])]
        exact hJ43 u ⟨hu, .inl h33⟩
      · rw [if_neg (by simpa using h33)]
        by_cases h39 : knd T (st.1 + m) = 39
        · rw [if_pos (by simp [h39])]
          exact hJ43 u ⟨hu, .inr h39⟩
        · rw [if_neg (by simpa using h39)]
          exact hJ37 _ u ⟨n, m, rfl, hlm, hu, heq, by omega⟩
theorem rpost_body {Rb : R2} {Ru Rp Rpr Rbr Ra : R1} {l : Nat} {st : PS} {K : Int → World → Prop} (hl : l ≤ 8)
    (hb : ∀ l', l = l' + 1 → SqB T w0 P p tb ar lx Rb l' 1) (hp : Sq T w0 P p tb ar lx Rpr l (pPrim T (subOf T l))) (h : PQ T w0 P p tb ar lx (.ok ((), st) : PR Unit) L w)
    (hK : ∀ r w', PQ T w0 P p tb ar lx (pPost T (subOf T l) st) L w' → Rv (pPost T (subOf T l) st) r → K r w') : B.parse_Parser_postfix Rb Ru Rp Rpr Rbr Ra p (l : Int) w K := by
  unfold B.parse_Parser_postfix
  refine hp L st w _ h fun r1 w1 h1 hr1 => ?_
  have etop : pPost T (subOf T l) st = bnd (pPrim T (subOf T l) st) fun x s => pIdx T (subOf T l) x s := rfl
  rw [etop] at hK
  generalize pPrim T (subOf T l) st = o1 at *
  generalize htg : (bnd o1 fun x s => pIdx T (subOf T l) x s) = tg at *
  refine loopN (fun m v u => ∃ (x : Int) (o2 : PR Int), v = (x, ()) ∧ PQ T w0 P p tb ar lx o2 L u ∧ (bnd o2 fun x s => pIdx T (subOf T l) x s) = tg ∧ Rv o2 x ∧ (∀ y st', o2 = .ok (y, st') → m = T.length - st'.1)) (match o1 with | .ok (_, st) => T.length - st.1 | .error _ => 0)
    ⟨r1, o1, rfl, h1, htg, hr1, fun y st' e => by subst e; rfl⟩ ?_
  rintro m _ u ⟨x, o2, rfl, h2, he2, hv, hn⟩ Q hQ
  dsimp only
  refine h2.flag (fun e heq => ?_) (fun y st heq => ?_)
  · subst heq
    rw [if_neg (by simp)]
    exact hK _ u (h2.conv he2) (by rw [← he2]; exact hv)
  subst heq
  have hx : x = y := hv
  subst hx
  have hn := hn _ _ rfl
  subst hn
  have hlt := h2.lt
  rw [if_pos (by rfl)]
  refine rkind h2 fun w3 h3 => ?_
  simp only [bnd_ok] at he2
  by_cases hk : knd T st.1 = 21
  · rw [if_pos (by simp [hk])]
    rw [idx_step (adv_sub l) (by omega) hk] at he2
    refine ropen h3 (fun hl0 => ?_) (fun w4 hl0 h4 => ?_)
    · rw [if_neg (by simp)]
      cases l with
      | zero => omega
      | succ l' =>
        refine rat h3 fun w5 h5 => ?_
        refine fresh_spec fun w6 f6 => ?_
        refine (h5.ext f6).node (n := nd0 14 (psn T st.1)) fun q w7 h7 => ?_
        refine rstep h7 (by omega) fun w8 h8 => ?_
        refine h8.st1 (by simp [ndV]) fun w9 h9 => ?_
        rw [rdeep (by omega)]
        refine hb l' rfl _ _ w9 _ h9.okv fun r17 w10 h10 hr10 => ?_
        refine h10.st1 (by simp [ndV]) fun w11 h11 => ?_
        have hadv := adv_idx (adv_sub (T := T) (l' + 1)) x st
        have eidx : idxOne T (subOf T (l' + 1)) x st = bnd (pE T l' (st.1 + 1, st.2)) fun b s => bnd (pTake T 22 s) fun _ s => pAdd { nd0 14 (psn T st.1) with a := x, b := b } s := by
          unfold idxOne; rw [subOf_succ]
        rw [eidx] at he2 hadv
        have hpe : pE T l' (st.1 + 1, st.2) = climb T (pU T l') 1 (st.1 + 1, st.2) := rfl
        rw [hpe] at he2 hadv
        rcases ho : climb T (pU T l') 1 (st.1 + 1, st.2) with e | ⟨b, s⟩
        · rw [ho] at h11 he2
          refine rtake_err h11 ?_
          rw [if_pos (by simp)]
          exact hK _ w11 (h11.tail.conv he2) (by rw [← he2]; rfl)
        · rw [ho] at h11 he2 hr10 hadv
          have hbb : r17 = b := hr10
          subst hbb
          simp only [bnd_ok] at he2 hadv
          refine rtake h11 (by omega) (fun w12 e12 h12 => ?_) (fun w12 q' e12 h12 => ?_)
          · rw [if_neg (by simp)]
            rw [e12] at he2 hadv
            simp only [bnd_ok] at he2 hadv
            refine ldNode (n := { nd0 14 (psn T st.1) with a := x, b := r17 }) h12.loc ?_
            refine radd h12.tail fun r27 w13 h13 hr13 => ?_
            rcases ho2 : pAdd { nd0 14 (psn T st.1) with a := x, b := r17 } (s.1 + 1, s.2) with e | ⟨y, s'⟩
            · rw [ho2] at h13 he2 hr13
              exact hQ 0 _ w13 (by omega) ⟨r27, _, rfl, h13, he2, hr13, fun y st' e => by cases e⟩
            · have ha2 := hadv _ _ ho2
              rw [ho2] at h13 he2 hr13
              exact hQ (T.length - s'.1) _ w13 (by have := h13.lt; omega) ⟨r27, _, rfl, h13, he2, hr13, fun y2 st2 e2 => by cases e2; rfl⟩
          · rw [if_pos (by simp)]
            rw [e12] at he2
            exact hK _ w12 (h12.tail.conv he2) (by rw [← he2]; rfl)
    · rw [if_pos (by simp)]
      have : l = 0 := by omega
      subst this
      exact hK _ w4 (h4.conv he2) (by rw [← he2]; rfl)
  · rw [if_neg (by simpa using hk)]
    rw [idx_stop hk] at he2
    exact hK _ w3 (h3.conv he2) (by rw [← he2]; rfl)
theorem rbr_body {Rb : R2} {Ru Rp Rpr Rbr Ra : R1} {l : Nat} {st : PS} {K : Int → World → Prop} (hl : l ≤ 8)
    (hb : ∀ l', l = l' + 1 → SqB T w0 P p tb ar lx Rb l' 1) (h : PQ T w0 P p tb ar lx (.ok ((), st) : PR Unit) L w)
    (hK : ∀ r w', PQ T w0 P p tb ar lx (pInner T (subOf T l) st) L w' → Rv (pInner T (subOf T l) st) r → K r w') : B.parse_Parser_bracket Rb Ru Rp Rpr Rbr Ra p (l : Int) w K := by
  unfold B.parse_Parser_bracket
  refine ldB h.st.2.2.1 rfl ?_
  rw [if_neg (by simp)]
  refine rkind h fun w1 h1 => ?_
  by_cases hk : knd T st.1 = 17
  · rw [if_neg (by simp [hk])]
    refine ropen h1 (fun hl0 => ?_) (fun w4 hl0 h4 => ?_)
    · rw [if_neg (by simp)]
      cases l with
      | zero => omega
      | succ l' =>
        refine rstep h1 (by omega) fun w2 h2 => ?_
        rw [rdeep (by omega)]
        refine hb l' rfl _ _ w2 _ h2 fun r6 w3 h3 hr3 => ?_
        have e : pInner T (subOf T (l' + 1)) st = bnd (climb T (pU T l') 1 (st.1 + 1, st.2)) fun x s => bnd (pTake T 18 s) fun _ s => .ok (x, s) := by
          unfold pInner; rw [if_pos hk, subOf_succ]; rfl
        rw [e] at hK
        rcases ho : climb T (pU T l') 1 (st.1 + 1, st.2) with q | ⟨b, s⟩
        · rw [ho] at h3 hK
          refine rtake_err h3 ?_
          rw [if_pos (by simp)]
          exact hK _ w3 h3 rfl
        · rw [ho] at h3 hK hr3
          have hbb : r6 = b := hr3
          subst hbb
          simp only [bnd_ok] at hK
          refine rtake h3 (by omega) (fun w12 e12 h12 => ?_) (fun w12 q' e12 h12 => ?_)
          · rw [if_neg (by simp)]
            rw [e12] at hK
            exact hK _ w12 h12.okv rfl
          · rw [if_pos (by simp)]
            rw [e12] at hK
            exact hK _ w12 h12 rfl
    · rw [if_pos (by simp)]
      have : l = 0 := by omega
      subst this
      have e : pInner T (subOf T 0) st = .error (11, psn T st.1) := by unfold pInner; rw [if_pos hk]; rfl
      exact hK _ w4 (by rw [e]; exact h4) (by rw [e]; rfl)
  · rw [if_pos (by simpa using hk)]
    refine rat h1 fun w2 h2 => ?_
    refine rfail (β := Int) h2 (by omega) fun w3 h3 => ?_
    have e : pInner T (subOf T l) st = .error (10, psn T st.1) := by unfold pInner; rw [if_neg hk]
    exact hK _ w3 (by rw [e]; exact h3) (by rw [e]; rfl)
theorem rbr_err {Rb : R2} {Ru Rp Rpr Rbr Ra : R1} {l : Int} {e : Int × Int} {K : Int → World → Prop} (h : PQ T w0 P p tb ar lx (.error e : PR Unit) L w) (hK : K (-1) w) : B.parse_Parser_bracket Rb Ru Rp Rpr Rbr Ra p l w K := by
  unfold B.parse_Parser_bracket
  obtain ⟨a1, i, m, a2, a3⟩ := h.st
  refine ldB a2 rfl ?_
  rw [if_pos rfl]
  exact hK
end Go.Proofs.Qxb6500562aGreat
