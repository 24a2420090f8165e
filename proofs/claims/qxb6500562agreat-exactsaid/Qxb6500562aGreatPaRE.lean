/-
  The real parser: functions, Parse.
-/
import Derived.Test.Qxb6500562aGreatPaRD
namespace Go.Proofs.Qxb6500562aGreat
open Go.Den Go.Zip
set_option linter.unusedVariables false
set_option linter.unusedSimpArgs false
variable {α β : Type} {T : List Tok} {w0 w w' : World} {P : Nat → Prop} {p tb ar lx q : Nat} {L : List (Nat × List Value)} {vs : List Value}

theorem rparams {st : PS} {K : Int → World → Prop} (h : PQ T w0 P p tb ar lx (.ok ((), st) : PR Unit) L w)
    (hK : ∀ r w', PQ T w0 P p tb ar lx (row T 18 (pParam T) (-1, -1) st) L w' → (∀ x s, row T 18 (pParam T) (-1, -1) st = .ok (x, s) → r = x) → K r w') : S.parse_Parser_params p w K := by
  unfold S.parse_Parser_params
  have hadv := fun x : Int => adv_param (T := T) x
  have hmk := fun f : Int => mk_param (T := T) h.tok.val f
  generalize htg : row T 18 (pParam T) (-1, -1) st = tg at *
  refine loopN (fun m v u => ∃ (a last : Int), v = (a, last, ()) ∧ ((∃ e, tg = .error e ∧ PQ T w0 P p tb ar lx (.error e : PR Int) L u) ∨
      ∃ s, PQ T w0 P p tb ar lx (.ok ((), s) : PR Unit) L u ∧ row T 18 (pParam T) (a, last) s = tg ∧ m = T.length - s.1 ∧ (a < 0 ↔ last < 0) ∧ last < s.2.length)) (T.length - st.1)
    ⟨-1, -1, rfl, .inr ⟨_, h, htg, rfl, by simp, by omega⟩⟩ ?_
  rintro m _ u ⟨a, last, rfl, hor⟩ Q hQ
  dsimp only
  rcases hor with ⟨e, he, hu⟩ | ⟨s, hu, heq, rfl, hfl, hll⟩
  · refine hu.flag (fun e' _ => ?_) (fun y st heq => by cases heq)
    rw [if_neg (by simp)]
    exact hK _ u (by rw [he]; exact hu) (fun x s ex => by rw [he] at ex; cases ex)
  · have hlt := hu.lt
    refine hu.flag (fun e' heq => by cases heq) (fun y st' _ => ?_)
    rw [if_pos (by rfl)]
    refine rkind hu fun w2 h2 => ?_
    by_cases k18 : knd T s.1 = 18
    · rw [if_neg (by simp [k18])]
      rw [row_stop k18] at heq
      exact hK _ w2 (by rw [← heq]; exact h2.okv) (fun x s ex => by rw [← heq] at ex; cases ex; rfl)
    rw [if_pos (by simpa using k18)]
    rw [row_step hadv (by omega) k18] at heq
    dsimp only at heq
    refine join_W (fun u' => ∃ s2, pComma T a s = .ok ((), s2) ∧ PQ T w0 P p tb ar lx (.ok ((), s2) : PR Unit) L u') ?_ ?_
    · rintro u' ⟨s2, e2, hu'⟩
      have ea : pParam T a s = bnd (pTake T 1 s2) fun _ s1 => bnd (pTyp T s1) fun t s3 => pAdd { nd0 1 (psn T s2.1) with val := t, name := txt T s2.1 } s3 := by unfold pParam; rw [e2]; rfl
      have had := hadv a s
      have hm := hmk a s
      generalize pParam T a s = op at *
      refine rat hu' fun w3 h3 => ?_
      refine fresh_spec fun w4 f4 => ?_
      refine (h3.ext f4).node (n := nd0 1 (psn T s2.1)) fun q w5 h5 => ?_
      refine drew_ ?_
      have h5 := h5.drew
      generalize w5.drew = w5 at *
      refine rtext h5 ?_
      refine h5.st1 (by simp [ndV]) fun w6 h6 => ?_
      -- behind the member
      have next : ∀ (u : World) (n : Nd) (o : PR Unit), PQ T w0 P p tb ar lx o ((q, ndV n) :: L) u → op = (bnd o fun _ s => pAdd n s) → (LdI .i64 u ⟨q, 0, none⟩ fun Kind_22 =>
            LdI .i64 u ⟨q, 1, none⟩ fun A_23 =>
            LdI .i64 u ⟨q, 2, none⟩ fun B_24 =>
            LdI .i64 u ⟨q, 3, none⟩ fun C_25 =>
            LdI .i64 u ⟨q, 4, none⟩ fun Next_26 =>
            LdI .i64 u ⟨q, 5, none⟩ fun Val_27 =>
            LdI .i64 u ⟨q, 6, none⟩ fun Pos_28 =>
            LdStr u ⟨q, 7, none⟩ fun Name_29 =>
            S.parse_Parser_add p Kind_22 A_23 B_24 C_25 Next_26 Val_27 Pos_28 Name_29 u (fun r30 w =>
            S.parse_Parser_hang p last r30 w (fun r31 w =>
            if (decide (a < 0)) = true then
              Q (r31, r31, ()) w
            else
              Q (a, r31, ()) w))) := by
        intro u n o hu e
        refine ldNode hu.loc ?_
        have stop : ∀ (e1 : Int × Int) (v : World), op = .error e1 → PQ T w0 P p tb ar lx (.error e1 : PR Int) L v → S.parse_Parser_hang p last (-1) v (fun r31 w => if (decide (a < 0)) = true then Q (r31, r31, ()) w else Q (a, r31, ()) w) := by
          intro e1 v ee hv
          rw [ee] at heq
          refine rhang_err ?_
          have hfin : ∀ x : Int, Q (x, -1, ()) v := fun x => hQ 0 _ v (by omega) ⟨x, -1, rfl, .inl ⟨e1, heq.symm, hv⟩⟩
          split
          · exact hfin _
          · exact hfin _
        rcases o with e1 | ⟨y, s3⟩
        · refine radd_err hu.tail fun v hv => ?_
          exact stop e1 v e hv
        · refine radd hu.tail fun r30 v hv hr => ?_
          simp only [bnd_ok] at e
          rw [← e] at hv hr
          rcases ho : op with e1 | ⟨x, s4⟩
          · rw [ho] at hv hr
            have hr : r30 = -1 := hr
            subst hr
            exact stop e1 v ho hv
          · have a1 := had _ _ ho
            obtain ⟨a2, _⟩ := hm _ _ ho
            have t1 := a2.top
            have t2 := a2.lt
            rw [ho] at hv hr heq
            have hr : r30 = x := hr
            subst hr
            simp only [bnd_ok] at heq
            refine rhang hv (by omega) (by omega) fun w4 h4 => ?_
            by_cases ha : a < 0
            · rw [if_pos (by simpa using ha)]
              rw [if_pos ha] at heq
              refine hQ (T.length - s4.1) _ w4 (by have := hv.lt; omega) ⟨r30, r30, rfl, .inr ⟨_, h4.okv, heq, by simp, by simp, by simp; omega⟩⟩
            · rw [if_neg (by simpa using ha)]
              rw [if_neg ha] at heq
              refine hQ (T.length - s4.1) _ w4 (by have := hv.lt; omega) ⟨a, r30, rfl, .inr ⟨_, h4.okv, heq, by simp, by omega, by simp; omega⟩⟩
      refine rtake h6 (by omega) (fun w7 e7 h7 => ?_) (fun w7 q' e7 h7 => ?_)
      · rw [if_neg (by simp)]
        rw [e7] at ea
        simp only [bnd_ok] at ea
        refine rtyp h7 fun r21 w8 h8 hr8 => ?_
        refine h8.st1 (by simp [ndV]) fun w9 h9 => ?_
        rcases ho : pTyp T (s2.1 + 1, s2.2) with e1 | ⟨t, s3⟩
        · rw [ho] at h9 ea
          exact next w9 { nd0 1 (psn T s2.1) with val := r21, name := txt T s2.1 } (.error e1) h9.errv ea
        · rw [ho] at h9 ea hr8
          have hr8 : r21 = t := hr8
          subst hr8
          exact next w9 { nd0 1 (psn T s2.1) with val := r21, name := txt T s2.1 } (.ok ((), s3)) h9.okv ea
      · rw [if_pos (by simp)]
        rw [e7] at ea
        rw [ea] at heq
        exact hK _ w7 (by rw [← heq]; exact h7.tail) (fun x s ex => by rw [← heq] at ex; cases ex)
    · intro J11 hJ11
      by_cases ha : a < 0
      · rw [if_neg (by simp only [decide_eq_true_eq]; omega)]
        exact hJ11 w2 ⟨s, by unfold pComma; rw [if_pos ha], h2⟩
      · rw [if_pos (by simp only [decide_eq_true_eq]; omega)]
        refine rtake h2 (by omega) (fun w3 e3 h3 => ?_) (fun w3 q' e3 h3 => ?_)
        · rw [if_neg (by simp)]
          exact hJ11 w3 ⟨_, by unfold pComma; rw [if_neg ha]; exact e3, h3⟩
        · rw [if_pos (by simp)]
          have e : tg = .error q' := by
            rw [← heq]
            unfold pParam pComma
            rw [if_neg ha, e3]; rfl
          exact hK _ w3 (by rw [e]; exact h3) (fun x s ex => by rw [e] at ex; cases ex)
theorem rfunc {st : PS} {K : Int → World → Prop} (h : PQ T w0 P p tb ar lx (.ok ((), st) : PR Unit) L w)
    (hK : ∀ r w', PQ T w0 P p tb ar lx (pFunc T st) L w' → Rv (pFunc T st) r → K r w') : S.parse_Parser_function p w K := by
  unfold S.parse_Parser_function
  have etg : pFunc T st = bnd (pTake T 3 st) fun _ s => bnd (pTake T 1 s) fun _ s1 => bnd (pTake T 17 s1) fun _ s2 => bnd (row T 18 (pParam T) (-1, -1) s2) fun a s3 =>
    bnd (pTake T 18 s3) fun _ s4 => bnd (pTyp T s4) fun t s5 => bnd (pBlk T 8 s5) fun b s6 => pAdd { nd0 0 (psn T s.1) with name := txt T s.1, a := a, b := b, val := t } s6 := rfl
  generalize pFunc T st = tg at *
  have stop : ∀ (e : Int × Int) (v : World), tg = .error e → PQ T w0 P p tb ar lx (.error e : PR Int) L v → K (-1) v := fun e v ee hv => hK _ v (by rw [ee]; exact hv) (by rw [ee]; rfl)
  refine rtake h (by omega) (fun w1 e1 h1 => ?_) (fun w1 q' e1 h1 => ?_)
  rotate_left
  · rw [if_pos (by simp)]
    rw [e1] at etg
    exact stop _ w1 etg h1
  rw [if_neg (by simp)]
  rw [e1] at etg
  simp only [bnd_ok] at etg
  refine rat h1 fun w2 h2 => ?_
  refine fresh_spec fun w3 f3 => ?_
  refine (h2.ext f3).node (n := nd0 0 (psn T (st.1 + 1))) fun q w4 h4 => ?_
  refine drew_ ?_
  have h4 := h4.drew
  generalize w4.drew = w4 at *
  refine rtext h4 ?_
  refine h4.st1 (by simp [ndV]) fun w5 h5 => ?_
  refine rtake h5 (by omega) (fun w6 e6 h6 => ?_) (fun w6 q' e6 h6 => ?_)
  rotate_left
  · rw [if_pos (by simp)]
    rw [e6] at etg
    exact stop _ w6 etg h6.tail
  rw [if_neg (by simp)]
  rw [e6] at etg
  simp only [bnd_ok] at etg
  refine rtake h6 (by omega) (fun w7 e7 h7 => ?_) (fun w7 q' e7 h7 => ?_)
  rotate_left
  · rw [if_pos (by simp)]
    rw [e7] at etg
    exact stop _ w7 etg h7.tail
  rw [if_neg (by simp)]
  rw [e7] at etg
  simp only [bnd_ok] at etg
  refine rparams h7 fun r19 w8 h8 hr8 => ?_
  refine h8.st1 (by simp [ndV]) fun w9 h9 => ?_
  rcases ho : row T 18 (pParam T) (-1, -1) (st.1 + 1 + 1 + 1, st.2) with e | ⟨a, s3⟩
  · rw [ho] at h9 etg
    refine rtake_err h9 ?_
    rw [if_pos (by simp)]
    exact stop _ w9 etg h9.tail
  have hr := hr8 _ _ ho
  subst hr
  rw [ho] at h9 etg
  simp only [bnd_ok] at etg
  refine rtake h9 (by omega) (fun w10 e10 h10 => ?_) (fun w10 q' e10 h10 => ?_)
  rotate_left
  · rw [if_pos (by simp)]
    rw [e10] at etg
    exact stop _ w10 etg h10.tail
  rw [if_neg (by simp)]
  rw [e10] at etg
  simp only [bnd_ok] at etg
  refine rtyp h10 fun r21 w11 h11 hr11 => ?_
  refine h11.st1 (by simp [ndV]) fun w12 h12 => ?_
  have hb := rblk_srv T w0 P p tb ar lx (l := 8) (by omega)
  rcases ho2 : pTyp T (s3.1 + 1, s3.2) with e | ⟨t, s5⟩
  · rw [ho2] at h12 etg
    refine hb.2 _ e w12 _ h12.errv fun w13 h13 => ?_
    refine h13.st1 (by simp [ndV]) fun w14 h14 => ?_
    refine ldNode (n := { nd0 0 (psn T (st.1 + 1)) with name := txt T (st.1 + 1), a := r19, b := -1, val := r21 }) h14.loc ?_
    refine radd_err h14.tail fun w15 h15 => ?_
    exact stop _ w15 etg h15
  rw [ho2] at h12 etg hr11
  have hr11 : r21 = t := hr11
  subst hr11
  simp only [bnd_ok] at etg
  refine hb.1 _ s5 w12 _ h12.okv fun r22 w13 h13 hr13 => ?_
  refine h13.st1 (by simp [ndV]) fun w14 h14 => ?_
  refine ldNode (n := { nd0 0 (psn T (st.1 + 1)) with name := txt T (st.1 + 1), a := r19, b := r22, val := r21 }) h14.loc ?_
  rcases ho3 : pBlk T 8 s5 with e | ⟨b, s6⟩
  · rw [ho3] at h14 etg
    refine radd_err h14.tail fun w15 h15 => ?_
    exact stop _ w15 etg h15
  · rw [ho3] at h14 etg hr13
    have hr13 : r22 = b := hr13
    subst hr13
    refine radd h14.tail fun r w15 h15 hr15 => ?_
    exact hK r w15 (by rw [etg]; exact h15) (by rw [etg]; exact hr15)
theorem rprog {K : Int → World → Prop} (h : PQ T w0 P p tb ar lx (.ok ((), 0, []) : PR Unit) L w)
    (hK : ∀ r w', PQ T w0 P p tb ar lx (pTree T) L w' → (∀ x s, pTree T = .ok (x, s) → r = x) → K r w') : S.parse_Parser_program p w K := by
  unfold S.parse_Parser_program
  have hadv : ∀ x : Int, Adv T ((fun _ => pFunc T) x) := fun _ => adv_func
  have hmk := mk_func (T := T) h.tok.val
  have etg : row T 0 (fun _ => pFunc T) (-1, -1) (0, []) = pTree T := rfl
  generalize pTree T = tg at *
  refine loopN (fun m v u => ∃ (a last : Int), v = (a, last, ()) ∧ ((∃ e, tg = .error e ∧ PQ T w0 P p tb ar lx (.error e : PR Int) L u) ∨
      ∃ s, PQ T w0 P p tb ar lx (.ok ((), s) : PR Unit) L u ∧ row T 0 (fun _ => pFunc T) (a, last) s = tg ∧ m = T.length - s.1 ∧ (a < 0 ↔ last < 0) ∧ last < s.2.length)) T.length
    ⟨-1, -1, rfl, .inr ⟨_, h, etg, rfl, by simp, by simp⟩⟩ ?_
  rintro m _ u ⟨a, last, rfl, hor⟩ Q hQ
  dsimp only
  rcases hor with ⟨e, he, hu⟩ | ⟨s, hu, heq, rfl, hfl, hll⟩
  · refine hu.flag (fun e' _ => ?_) (fun y st heq => by cases heq)
    rw [if_neg (by simp)]
    exact hK _ u (by rw [he]; exact hu) (fun x s ex => by rw [he] at ex; cases ex)
  · have hlt := hu.lt
    refine hu.flag (fun e' heq => by cases heq) (fun y st' _ => ?_)
    rw [if_pos (by rfl)]
    refine rkind hu fun w2 h2 => ?_
    by_cases k0 : knd T s.1 = 0
    · rw [if_neg (by simp [k0])]
      rw [row_stop k0] at heq
      exact hK _ w2 (by rw [← heq]; exact h2.okv) (fun x s ex => by rw [← heq] at ex; cases ex; rfl)
    rw [if_pos (by simpa using k0)]
    rw [row_step hadv (by omega) k0] at heq
    dsimp only at heq
    refine rfunc h2 fun r5 w3 h3 hr3 => ?_
    rcases ho : pFunc T s with e | ⟨x, s4⟩
    · rw [ho] at h3 heq hr3
      have hr3 : r5 = -1 := hr3
      subst hr3
      refine rhang_err ?_
      have hfin : ∀ x : Int, Q (x, -1, ()) w3 := fun x => hQ 0 _ w3 (by omega) ⟨x, -1, rfl, .inl ⟨e, heq.symm, h3⟩⟩
      split
      · exact hfin _
      · exact hfin _
    · rw [ho] at h3 heq hr3
      have hr3 : r5 = x := hr3
      subst hr3
      have a1 := adv_func _ _ _ ho
      obtain ⟨a2, _⟩ := hmk _ _ _ ho
      have t1 := a2.top
      have t2 := a2.lt
      simp only [bnd_ok] at heq
      refine rhang h3 (by omega) (by omega) fun w4 h4 => ?_
      by_cases ha : a < 0
      · rw [if_pos (by simpa using ha)]
        rw [if_pos ha] at heq
        refine hQ (T.length - s4.1) _ w4 (by have := h3.lt; omega) ⟨r5, r5, rfl, .inr ⟨_, h4.okv, heq, by simp, by simp, by simp; omega⟩⟩
      · rw [if_neg (by simpa using ha)]
        rw [if_neg ha] at heq
        refine hQ (T.length - s4.1) _ w4 (by have := h3.lt; omega) ⟨a, r5, rfl, .inr ⟨_, h4.okv, heq, by simp, by omega, by simp; omega⟩⟩
end Go.Proofs.Qxb6500562aGreat
