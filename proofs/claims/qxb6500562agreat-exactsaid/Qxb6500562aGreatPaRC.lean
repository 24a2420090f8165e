/-
  The real parser: expressions, all.
-/
import Derived.Test.Qxb6500562aGreatPaRB
namespace Go.Proofs.Qxb6500562aGreat
open Go.Den Go.Zip
set_option linter.unusedVariables false
set_option linter.unusedSimpArgs false
variable {α β : Type} {T : List Tok} {w0 w w' : World} {P : Nat → Prop} {p tb ar lx q : Nat} {L : List (Nat × List Value)} {vs : List Value}

/-- '(' arguments ')' . -/
def pArgsF (T : List Tok) (sub : Sub) (st : PS) : PR Int :=
  match sub with
  | none => .error (11, psn T st.1)
  | some e => bnd (row T 18 (pArg T e.1) (-1, -1) (st.1 + 1, st.2)) fun x s => bnd (pTake T 18 s) fun _ s => .ok (x, s)
theorem rargs_body {Rb : R2} {Ru Rp Rpr Rbr Ra : R1} {l : Nat} {st : PS} {K : Int → World → Prop} (hl : l ≤ 8) (hk17 : knd T st.1 = 17)
    (hb : ∀ l', l = l' + 1 → SqB T w0 P p tb ar lx Rb l' 1) (h : PQ T w0 P p tb ar lx (.ok ((), st) : PR Unit) L w)
    (hK : ∀ r w', PQ T w0 P p tb ar lx (pArgsF T (subOf T l) st) L w' → Rv (pArgsF T (subOf T l) st) r → K r w') : B.parse_Parser_args Rb Ru Rp Rpr Rbr Ra p (l : Int) w K := by
  unfold B.parse_Parser_args
  refine ropen h (fun hl0 => ?_) (fun w4 hl0 h4 => ?_)
  · rw [if_neg (by simp)]
    cases l with
    | zero => omega
    | succ l' =>
      refine rstep h (by omega) fun w1 h1 => ?_
      have hadv := fun x => adv_arg (T := T) (adv_E l') x
      have hmk := fun f : Int => mk_arg (T := T) (mk_E h1.tok.val l') f
      have etg : pArgsF T (subOf T (l' + 1)) st = bnd (row T 18 (pArg T (pE T l')) (-1, -1) (st.1 + 1, st.2)) fun x s => bnd (pTake T 18 s) fun _ s => .ok (x, s) := by
        unfold pArgsF; rw [subOf_succ]
      rw [etg] at hK
      have hinit : row T 18 (pArg T (pE T l')) (-1, -1) (st.1 + 1, st.2) = bnd (.ok ((-1, -1), st.1 + 1, st.2) : PR (Int × Int)) fun v s => row T 18 (pArg T (pE T l')) v s := rfl
      have hlt1 := h1.lt
      generalize htg : row T 18 (pArg T (pE T l')) (-1, -1) (st.1 + 1, st.2) = tg at *
      refine join_P (fun (first : Int) u => (∃ e, tg = .error e ∧ PQ T w0 P p tb ar lx (.error e : PR Int) L u) ∨ ∃ s, tg = .ok (first, s) ∧ PQ T w0 P p tb ar lx (.ok ((), s) : PR Unit) L u) ?_ ?_
      · rintro first u (⟨e, rfl, hu⟩ | ⟨s, rfl, hu⟩)
        · refine rtake_err hu ?_
          rw [if_pos (by simp)]
          exact hK _ u hu rfl
        · simp only [bnd_ok] at hK
          refine rtake hu (by omega) (fun w2 e2 h2 => ?_) (fun w2 q' e2 h2 => ?_)
          · rw [if_neg (by simp)]
            rw [e2] at hK
            exact hK _ w2 h2.okv rfl
          · rw [if_pos (by simp)]
            rw [e2] at hK
            exact hK _ w2 h2 rfl
      · intro J4 hJ4
        refine loopN (fun m v u => ∃ (a last : Int), v = (a, last, ()) ∧ ((∃ e, tg = .error e ∧ PQ T w0 P p tb ar lx (.error e : PR Int) L u) ∨
            ∃ s, PQ T w0 P p tb ar lx (.ok ((), s) : PR Unit) L u ∧ row T 18 (pArg T (pE T l')) (a, last) s = tg ∧ m = T.length - s.1 ∧ (a < 0 ↔ last < 0) ∧ last < s.2.length)) (T.length - (st.1 + 1))
          ⟨-1, -1, rfl, .inr ⟨_, h1, hinit.symm, rfl, by simp, by omega⟩⟩ ?_
        rintro m _ u ⟨a, last, rfl, hor⟩ Q hQ
        dsimp only
        rcases hor with ⟨e, he, hu⟩ | ⟨s, hu, heq, rfl, hfl, hll⟩
        · refine hu.flag (fun e' _ => ?_) (fun y st heq => by cases heq)
          rw [if_neg (by simp)]
          exact hJ4 _ u (.inl ⟨e, he, hu⟩)
        · have hlt := hu.lt
          refine hu.flag (fun e' heq => by cases heq) (fun y st' _ => ?_)
          rw [if_pos (by rfl)]
          refine rkind hu fun w2 h2 => ?_
          by_cases k18 : knd T s.1 = 18
          · rw [if_neg (by simp [k18])]
            rw [row_stop k18] at heq
            exact hJ4 _ w2 (.inr ⟨s, heq.symm, h2⟩)
          rw [if_pos (by simpa using k18)]
          rw [row_step hadv (by omega) k18] at heq
          dsimp only at heq
          refine join_W (fun u' => ∃ s2, pComma T a s = .ok ((), s2) ∧ PQ T w0 P p tb ar lx (.ok ((), s2) : PR Unit) L u') ?_ ?_
          · rintro u' ⟨s2, e2, hu'⟩
            rw [rdeep (by omega)]
            refine hb l' rfl _ _ u' _ hu' fun r9 w3 h3 hr3 => ?_
            have ea : pArg T (pE T l') a s = climb T (pU T l') 1 s2 := by unfold pArg; rw [e2]; rfl
            have had := hadv a s
            have hm := hmk a s
            rw [ea] at heq had hm
            rcases ho : climb T (pU T l') 1 s2 with e | ⟨x, s3⟩
            · rw [ho] at h3 heq hr3
              have hr3 : r9 = -1 := hr3
              subst hr3
              refine rhang_err ?_
              have hfin : ∀ v : Int, Q (v, -1, ()) w3 := fun v => hQ 0 _ w3 (by omega) ⟨v, -1, rfl, .inl ⟨e, heq.symm, h3⟩⟩
              split
              · exact hfin _
              · exact hfin _
            · rw [ho] at h3 heq hr3
              have hr3 : r9 = x := hr3
              subst hr3
              have a1 := had _ _ ho
              obtain ⟨a2, _⟩ := hm _ _ ho
              have t1 := a2.top
              have t2 := a2.lt
              simp only [bnd_ok] at heq
              refine rhang h3 (by omega) (by omega) fun w4 h4 => ?_
              by_cases ha : a < 0
              · rw [if_pos (by simpa using ha)]
                rw [if_pos ha] at heq
                refine hQ (T.length - s3.1) _ w4 (by have := h3.lt; omega) ⟨r9, r9, rfl, .inr ⟨_, h4.okv, heq, by simp, by simp, by simp; omega⟩⟩
              · rw [if_neg (by simpa using ha)]
                rw [if_neg ha] at heq
                refine hQ (T.length - s3.1) _ w4 (by have := h3.lt; omega) ⟨a, r9, rfl, .inr ⟨_, h4.okv, heq, by simp, by omega, by simp; omega⟩⟩
          · intro J11 hJ11
            by_cases ha : a < 0
            · rw [if_neg (by simp only [decide_eq_true_eq]; omega)]
              exact hJ11 w2 ⟨s, by unfold pComma; rw [if_pos ha], h2⟩
            · rw [if_pos (by simp only [decide_eq_true_eq]; omega)]
              refine rtake h2 (by omega) (fun w3 e3 h3 => ?_) (fun w3 q' e3 h3 => ?_)
              · rw [if_neg (by simp)]
                exact hJ11 w3 ⟨_, by unfold pComma; rw [if_neg ha]; exact e3, h3⟩
              · rw [if_pos (by simp)]
                have e : tg = .error q' := by
                  rw [← heq]
                  unfold pArg pComma
                  rw [if_neg ha, e3]; rfl
                rw [e] at hK
                exact hK _ w3 h3 rfl
  · rw [if_pos (by simp)]
    have : l = 0 := by omega
    subst this
    exact hK _ w4 h4 rfl
theorem pCall_args {l : Nat} {st : PS} (hk : knd T (st.1 + 1) = 17) : pCall T (subOf T l) st = bnd (pArgsF T (subOf T l) (st.1 + 1, st.2)) fun x s => pAdd { nd0 13 (psn T st.1) with a := x, name := txt T st.1 } s := by
  unfold pCall pArgsF
  rw [if_pos hk]
  cases subOf T l with
  | none => rfl
  | some e => simp only [bnd_assoc, bnd_ok]
/-- The args' function is called at a '(' alone. -/
def SqA (T : List Tok) (w0 : World) (P : Nat → Prop) (p tb ar lx : Nat) (R : R1) (l : Nat) : Prop :=
  ∀ L st w K, knd T st.1 = 17 → PQ T w0 P p tb ar lx (.ok ((), st) : PR Unit) L w → (∀ r w', PQ T w0 P p tb ar lx (pArgsF T (subOf T l) st) L w' → Rv (pArgsF T (subOf T l) st) r → K r w') → R p (l : Int) w K
theorem rprim_body {Rb : R2} {Ru Rp Rpr Rbr Ra : R1} {l : Nat} {st : PS} {K : Int → World → Prop} (hl : l ≤ 8)
    (hbr : Sg T w0 P p tb ar lx Rbr l (pInner T (subOf T l))) (ha : SqA T w0 P p tb ar lx Ra l) (h : PQ T w0 P p tb ar lx (.ok ((), st) : PR Unit) L w)
    (hK : ∀ r w', PQ T w0 P p tb ar lx (pPrim T (subOf T l) st) L w' → Rv (pPrim T (subOf T l) st) r → K r w') : B.parse_Parser_primary Rb Ru Rp Rpr Rbr Ra p (l : Int) w K := by
  unfold B.parse_Parser_primary
  refine drew_ ?_
  have h := h.drew
  generalize w.drew = w1 at *
  have hlt := h.lt
  have b1 := h.st.2.2.1
  have b2 := h.toks
  refine ldS b1 rfl (ldI b1 rfl (ix rfl (by omega) (by dsimp only; omega) ?_))
  refine ldI b2 (m := knd T st.1) ((tokCell (k := 0) hlt.1 (by omega)).trans rfl) ?_
  refine ldI b2 (m := psn T st.1) ((tokCell (k := 1) hlt.1 (by omega)).trans rfl) ?_
  refine ldI b2 (m := (tk T st.1).val) ((tokCell (k := 2) hlt.1 (by omega)).trans rfl) ?_
  refine ldStr b2 (m := txt T st.1) ((tokCell (k := 3) hlt.1 (by omega)).trans rfl) ?_
  refine newB fun w2 c2 f2 s2 => ?_
  have h2 := h.new f2 (Nat.le_refl _) c2
  refine ⟨held b2 (b2.fr f2 (by omega)), held b1 (b1.fr f2 (by omega)), held b1 (b1.fr f2 (by omega)), ?_⟩
  refine h2.st1 (by simp) fun w3 h3 => h3.st1 (by simp) fun w4 h4 => h4.st1 (by simp) fun w5 h5 => h5.st1 (by simp) fun w6 h6 => ?_
  have h6 : PQ T w0 P p tb ar lx (.ok ((), st) : PR Unit) ((w1.heap.size, tokV (tk T st.1)) :: L) w6 := h6
  clear h2 h3 h4 h5 b1 b2 c2 f2
  generalize w1.heap.size = p12 at *
  refine ldI h6.loc rfl ?_
  have hkd : (tk T st.1).kind = knd T st.1 := rfl
  rw [hkd]
  have fin : ∀ (n : Nd) (u : World) (s : PS), pPrim T (subOf T l) st = pAdd n s → PQ T w0 P p tb ar lx (.ok ((), s) : PR Unit) ((p12, tokV (tk T st.1)) :: L) u → S.parse_Parser_add p n.kind n.a n.b n.c n.next n.val n.pos n.name u (fun r w => K r w) := by
    intro n u s e hu
    refine radd hu fun r w' h' hr => ?_
    rw [← e] at h' hr
    exact hK r w' h'.tail hr
  have bad : ∀ (n : Nd) (u : World) (e : Int × Int), pPrim T (subOf T l) st = .error e → PQ T w0 P p tb ar lx (.error e : PR Int) ((p12, tokV (tk T st.1)) :: L) u → S.parse_Parser_add p n.kind n.a n.b n.c n.next n.val n.pos n.name u (fun r w => K r w) := by
    intro n u e ee hu
    refine radd_err hu fun w' h' => ?_
    exact hK _ w' (by rw [ee]; exact h'.tail) (by rw [ee]; rfl)
  refine if_q (fun k2 => ?_) fun k2 => ?_
  · refine rstep h6 (by omega) fun w7 h7 => ?_
    refine ldI h7.loc rfl ?_
    refine fresh_spec fun w8 f8 => ?_
    refine (h7.ext f8).node (n := nd0 10 (psn T st.1)) fun q w9 h9 => ?_
    refine ldI h9.loc2 rfl ?_
    refine h9.st1 (by simp [ndV]) fun w10 h10 => ?_
    refine ldNode (n := { nd0 10 (psn T st.1) with val := (tk T st.1).val }) h10.loc ?_
    refine fin _ w10 (st.1 + 1, st.2) ?_ h10.tail
    unfold pPrim; rw [if_pos k2]
  refine if_q (fun k10 => ?_) fun k10 => ?_
  · refine rstep h6 (by omega) fun w7 h7 => ?_
    refine ldI h7.loc rfl ?_
    refine fresh_spec fun w8 f8 => ?_
    refine (h7.ext f8).node (n := nd0 11 (psn T st.1)) fun q w9 h9 => ?_
    refine h9.st1 (by simp [ndV]) fun w10 h10 => ?_
    refine ldNode (n := { nd0 11 (psn T st.1) with val := 1 }) h10.loc ?_
    refine fin _ w10 (st.1 + 1, st.2) ?_ h10.tail
    unfold pPrim; rw [if_neg k2, if_pos k10]
  refine if_q (fun k11 => ?_) fun k11 => ?_
  · refine rstep h6 (by omega) fun w7 h7 => ?_
    refine ldI h7.loc rfl ?_
    refine fresh_spec fun w8 f8 => ?_
    refine (h7.ext f8).node (n := nd0 11 (psn T st.1)) fun q w9 h9 => ?_
    refine ldNode h9.loc ?_
    refine fin _ w9 (st.1 + 1, st.2) ?_ h9.tail
    unfold pPrim; rw [if_neg k2, if_neg k10, if_pos k11]
  refine if_q (fun k17 => ?_) fun k17 => ?_
  · refine hbr.1 _ st w6 _ h6 fun r w7 h7 hr => ?_
    have e : pPrim T (subOf T l) st = pInner T (subOf T l) st := by unfold pPrim; rw [if_neg k2, if_neg k10, if_neg k11, if_pos k17]
    rw [← e] at h7 hr
    exact hK r w7 h7.tail hr
  refine if_q (fun k12 => ?_) fun k12 => ?_
  · have e : pPrim T (subOf T l) st = bnd (pTyp T (st.1 + 1, st.2)) fun t s => bnd (pInner T (subOf T l) s) fun x s => pAdd { nd0 15 (psn T st.1) with val := t, a := x } s := by
      unfold pPrim; rw [if_neg k2, if_neg k10, if_neg k11, if_neg k17, if_pos k12]
    refine rstep h6 (by omega) fun w7 h7 => ?_
    refine ldI h7.loc rfl ?_
    refine fresh_spec fun w8 f8 => ?_
    refine (h7.ext f8).node (n := nd0 15 (psn T st.1)) fun q w9 h9 => ?_
    refine rtyp h9 fun r83 w10 h10 hr10 => ?_
    refine h10.st1 (by simp [ndV]) fun w11 h11 => ?_
    rcases ho : pTyp T (st.1 + 1, st.2) with e1 | ⟨t, s1⟩
    · rw [ho] at e h11
      refine hbr.2 _ e1 w11 _ h11.errv fun w12 h12 => ?_
      refine h12.st1 (by simp [ndV]) fun w13 h13 => ?_
      refine ldNode (n := { nd0 15 (psn T st.1) with a := -1, val := r83 }) h13.loc ?_
      exact bad _ w13 e1 e h13.tail
    · rw [ho] at e h11 hr10
      have hr10 : r83 = t := hr10
      subst hr10
      simp only [bnd_ok] at e
      refine hbr.1 _ s1 w11 _ h11.okv fun r84 w12 h12 hr12 => ?_
      refine h12.st1 (by simp [ndV]) fun w13 h13 => ?_
      refine ldNode (n := { nd0 15 (psn T st.1) with a := r84, val := r83 }) h13.loc ?_
      rcases ho2 : pInner T (subOf T l) s1 with e1 | ⟨x, s2⟩
      · rw [ho2] at e h13
        exact bad _ w13 e1 e h13.tail
      · rw [ho2] at e h13 hr12
        have hr12 : r84 = x := hr12
        subst hr12
        exact fin _ w13 s2 e h13.tail.okv
  refine if_q (fun k13 => ?_) fun k13 => ?_
  · have e : pPrim T (subOf T l) st = bnd (pInner T (subOf T l) (st.1 + 1, st.2)) fun x s => pAdd { nd0 16 (psn T st.1) with a := x } s := by
      unfold pPrim; rw [if_neg k2, if_neg k10, if_neg k11, if_neg k17, if_neg k12, if_pos k13]
    refine rstep h6 (by omega) fun w7 h7 => ?_
    refine ldI h7.loc rfl ?_
    refine fresh_spec fun w8 f8 => ?_
    refine (h7.ext f8).node (n := nd0 16 (psn T st.1)) fun q w9 h9 => ?_
    refine hbr.1 _ _ w9 _ h9 fun r84 w12 h12 hr12 => ?_
    refine h12.st1 (by simp [ndV]) fun w13 h13 => ?_
    refine ldNode (n := { nd0 16 (psn T st.1) with a := r84 }) h13.loc ?_
    rcases ho2 : pInner T (subOf T l) (st.1 + 1, st.2) with e1 | ⟨x, s2⟩
    · rw [ho2] at e h13
      exact bad _ w13 e1 e h13.tail
    · rw [ho2] at e h13 hr12
      have hr12 : r84 = x := hr12
      subst hr12
      exact fin _ w13 s2 e h13.tail.okv
  refine if_q (fun k14 => ?_) fun k14 => ?_
  · have e : pPrim T (subOf T l) st = bnd (pTake T 17 (st.1 + 1, st.2)) fun _ s => bnd (pTake T 18 s) fun _ s => pAdd (nd0 17 (psn T st.1)) s := by
      unfold pPrim; rw [if_neg k2, if_neg k10, if_neg k11, if_neg k17, if_neg k12, if_neg k13, if_pos k14]
    refine rstep h6 (by omega) fun w7 h7 => ?_
    refine rtake h7 (by omega) (fun w8 e8 h8 => ?_) (fun w8 q' e8 h8 => ?_)
    · rw [if_neg (by simp)]
      rw [e8] at e
      simp only [bnd_ok] at e
      refine rtake h8 (by omega) (fun w9 e9 h9 => ?_) (fun w9 q' e9 h9 => ?_)
      · rw [if_neg (by simp)]
        rw [e9] at e
        refine ldI h9.loc rfl ?_
        refine fresh_spec fun w10 f10 => ?_
        refine (h9.ext f10).node (n := nd0 17 (psn T st.1)) fun q w11 h11 => ?_
        refine ldNode h11.loc ?_
        exact fin _ w11 _ e h11.tail
      · rw [if_pos (by simp)]
        rw [e9] at e
        exact hK _ w9 (by rw [e]; exact h9.tail) (by rw [e]; rfl)
    · rw [if_pos (by simp)]
      rw [e8] at e
      exact hK _ w8 (by rw [e]; exact h8.tail) (by rw [e]; rfl)
  refine if_q (fun k1 => ?_) fun k1 => ?_
  · have e : pPrim T (subOf T l) st = pCall T (subOf T l) st := by
      unfold pPrim; rw [if_neg k2, if_neg k10, if_neg k11, if_neg k17, if_neg k12, if_neg k13, if_neg k14, if_pos k1]
    refine rstep h6 (by omega) fun w7 h7 => ?_
    refine ldI h7.loc rfl ?_
    refine fresh_spec fun w8 f8 => ?_
    refine (h7.ext f8).node (n := nd0 12 (psn T st.1)) fun q w9 h9 => ?_
    refine ldStr h9.loc2 rfl ?_
    refine h9.st1 (by simp [ndV]) fun w10 h10 => ?_
    have h10 : PQ T w0 P p tb ar lx (.ok ((), st.1 + 1, st.2) : PR Unit) ((q, ndV { nd0 12 (psn T st.1) with name := txt T st.1 }) :: (p12, tokV (tk T st.1)) :: L) w10 := h10
    refine rkind h10 fun w11 h11 => ?_
    refine join_W (fun u => ∃ (n : Nd) (o : PR Int), PQ T w0 P p tb ar lx o ((q, ndV n) :: (p12, tokV (tk T st.1)) :: L) u ∧ (bnd o fun _ s => pAdd n s) = pPrim T (subOf T l) st) ?_ ?_
    · rintro u ⟨n, o, hu, heq⟩
      refine ldNode hu.loc ?_
      rcases o with e1 | ⟨x, s⟩
      · exact bad _ u e1 heq.symm hu.tail
      · exact fin _ u s heq.symm hu.tail.okv
    · intro J hJ
      dsimp only
      refine if_q (fun kp => ?_) fun kp => ?_
      · refine h11.st1 (by simp [ndV]) fun w12 h12 => ?_
        refine ha _ (st.1 + 1, st.2) w12 _ kp h12 fun r157 w13 h13 hr13 => ?_
        refine h13.st1 (by simp [ndV]) fun w14 h14 => ?_
        refine hJ w14 ⟨{ nd0 13 (psn T st.1) with a := r157, name := txt T st.1 }, _, h14, ?_⟩
        rw [e, pCall_args kp]
        refine bnd_congr fun x s ex => ?_
        rw [ex] at hr13
        have hr13 : r157 = x := hr13
        rw [hr13]
      · refine hJ w11 ⟨_, .ok (0, st.1 + 1, st.2), h11.okv, ?_⟩
        rw [e]
        unfold pCall
        rw [if_neg kp]; rfl
  · refine ldI h6.loc rfl ?_
    refine rfail (β := Int) h6 (by omega) fun w7 h7 => ?_
    have e : pPrim T (subOf T l) st = .error (10, psn T st.1) := by
      unfold pPrim; rw [if_neg k2, if_neg k10, if_neg k11, if_neg k17, if_neg k12, if_neg k13, if_neg k14, if_neg k1]
    exact hK _ w7 (by rw [e]; exact h7.tail) (by rw [e]; rfl)
/-- The expressions' functions, all. -/
theorem rbin_srv (T : List Tok) (w0 : World) (P : Nat → Prop) (p tb ar lx : Nat) {l : Nat} (hl : l ≤ 8) : SqB T w0 P p tb ar lx S.parse_Parser_binary l 1 := by
  intro L st w K h hK
  refine ⟨fun n p' mp d w K => ∃ (l m : Nat) (L : List (Nat × List Value)) (st : PS), p' = p ∧ d = (l : Int) ∧ l ≤ 8 ∧ mp = (m : Int) ∧ 1 ≤ m ∧ m ≤ 6 ∧ n = l * 16 + 12 - m ∧ PQ T w0 P p tb ar lx (.ok ((), st) : PR Unit) L w ∧ (∀ r w', PQ T w0 P p tb ar lx (climb T (pU T l) m st) L w' → Rv (climb T (pU T l) m st) r → K r w'),
    fun n p' d w K => ∃ (l : Nat) (L : List (Nat × List Value)) (st : PS), p' = p ∧ d = (l : Int) ∧ l ≤ 8 ∧ n = l * 16 + 5 ∧ PQ T w0 P p tb ar lx (.ok ((), st) : PR Unit) L w ∧ (∀ r w', PQ T w0 P p tb ar lx (pU T l st) L w' → Rv (pU T l st) r → K r w'),
    fun n p' d w K => ∃ (l : Nat) (L : List (Nat × List Value)) (st : PS), p' = p ∧ d = (l : Int) ∧ l ≤ 8 ∧ n = l * 16 + 4 ∧ PQ T w0 P p tb ar lx (.ok ((), st) : PR Unit) L w ∧ (∀ r w', PQ T w0 P p tb ar lx (pPost T (subOf T l) st) L w' → Rv (pPost T (subOf T l) st) r → K r w'),
    fun n p' d w K => ∃ (l : Nat) (L : List (Nat × List Value)) (st : PS), p' = p ∧ d = (l : Int) ∧ l ≤ 8 ∧ n = l * 16 + 3 ∧ PQ T w0 P p tb ar lx (.ok ((), st) : PR Unit) L w ∧ (∀ r w', PQ T w0 P p tb ar lx (pPrim T (subOf T l) st) L w' → Rv (pPrim T (subOf T l) st) r → K r w'),
    fun n p' d w K => ∃ (l : Nat) (L : List (Nat × List Value)), p' = p ∧ d = (l : Int) ∧ l ≤ 8 ∧ n = l * 16 + 2 ∧ ((∃ st : PS, PQ T w0 P p tb ar lx (.ok ((), st) : PR Unit) L w ∧ (∀ r w', PQ T w0 P p tb ar lx (pInner T (subOf T l) st) L w' → Rv (pInner T (subOf T l) st) r → K r w')) ∨
      ∃ e, PQ T w0 P p tb ar lx (.error e : PR Unit) L w ∧ ∀ w', PQ T w0 P p tb ar lx (.error e : PR Int) L w' → K (-1) w'),
    fun n p' d w K => ∃ (l : Nat) (L : List (Nat × List Value)) (st : PS), p' = p ∧ d = (l : Int) ∧ l ≤ 8 ∧ n = l * 16 + 1 ∧ knd T st.1 = 17 ∧ PQ T w0 P p tb ar lx (.ok ((), st) : PR Unit) L w ∧ (∀ r w', PQ T w0 P p tb ar lx (pArgsF T (subOf T l) st) L w' → Rv (pArgsF T (subOf T l) st) r → K r w'),
    ⟨?_, ?_, ?_, ?_, ?_, ?_⟩, l * 16 + 11, l, 1, L, st, rfl, rfl, hl, rfl, by omega, by omega, rfl, h, hK⟩
  · rintro n p' mp d w K ⟨l, m, L, st, rfl, rfl, hl, rfl, hm1, hm6, rfl, h, hK⟩
    refine rbin_body hl hm1 hm6 (fun L st w K h1 h2 => ?_) (fun m' e1 e2 L st w K h1 h2 => ?_) h hK
    · exact ⟨l * 16 + 5, by omega, l, L, st, rfl, rfl, hl, rfl, h1, h2⟩
    · exact ⟨l * 16 + 12 - m', by omega, l, m', L, st, rfl, rfl, hl, rfl, by omega, by omega, rfl, h1, h2⟩
  · rintro n p' d w K ⟨l, L, st, rfl, rfl, hl, rfl, h, hK⟩
    refine run_body hl (fun l' e L st w K h1 h2 => ?_) h hK
    exact ⟨l' * 16 + 4, by omega, l', L, st, rfl, rfl, by omega, rfl, h1, h2⟩
  · rintro n p' d w K ⟨l, L, st, rfl, rfl, hl, rfl, h, hK⟩
    refine rpost_body hl (fun l' e L st w K h1 h2 => ?_) (fun L st w K h1 h2 => ?_) h hK
    · exact ⟨l' * 16 + 11, by omega, l', 1, L, st, rfl, rfl, by omega, rfl, by omega, by omega, rfl, h1, h2⟩
    · exact ⟨l * 16 + 3, by omega, l, L, st, rfl, rfl, hl, rfl, h1, h2⟩
  · rintro n p' d w K ⟨l, L, st, rfl, rfl, hl, rfl, h, hK⟩
    refine rprim_body hl ⟨fun L st w K h1 h2 => ?_, fun L e w K h1 h2 => ?_⟩ (fun L st w K hk h1 h2 => ?_) h hK
    · exact ⟨l * 16 + 2, by omega, l, L, rfl, rfl, hl, rfl, .inl ⟨st, h1, h2⟩⟩
    · exact ⟨l * 16 + 2, by omega, l, L, rfl, rfl, hl, rfl, .inr ⟨e, h1, h2⟩⟩
    · exact ⟨l * 16 + 1, by omega, l, L, st, rfl, rfl, hl, rfl, hk, h1, h2⟩
  · rintro n p' d w K ⟨l, L, rfl, rfl, hl, rfl, ⟨st, h, hK⟩ | ⟨e, h, hK⟩⟩
    · refine rbr_body hl (fun l' e L st w K h1 h2 => ?_) h hK
      exact ⟨l' * 16 + 11, by omega, l', 1, L, st, rfl, rfl, by omega, rfl, by omega, by omega, rfl, h1, h2⟩
    · exact rbr_err h (hK w h.errv)
  · rintro n p' d w K ⟨l, L, st, rfl, rfl, hl, rfl, hk, h, hK⟩
    refine rargs_body hl hk (fun l' e L st w K h1 h2 => ?_) h hK
    exact ⟨l' * 16 + 11, by omega, l', 1, L, st, rfl, rfl, by omega, rfl, by omega, by omega, rfl, h1, h2⟩
end Go.Proofs.Qxb6500562aGreat
