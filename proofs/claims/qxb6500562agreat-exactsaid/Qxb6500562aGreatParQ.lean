/-
  The model's parser: primary; expressions, all.
-/
import Derived.Test.Qxb6500562aGreatParO
import Derived.Test.Qxb6500562aGreatParX
namespace Go.Proofs.Qxb6500562aGreat
open Go.Den Go.Zip
set_option linter.unusedVariables false
set_option linter.unusedSimpArgs false
variable {α β : Type} {T : List Tok} {w0 w w' : World} {s tb p : Nat} {L : List (Nat × List Value)} {vs : List Value}

theorem tokV_eq (t : Tok) : tokV t = [.int .i64 t.kind, .int .i64 t.pos, .int .i64 t.val, .string t.text] := rfl
theorem mprim_body {R1e R3 R4 R5 R6 : R1} {R2 : Nat → Int → Int → World → (Int → World → Prop) → Prop} {l : Nat} {o : PR Unit} {K : Int → World → Prop} (hl : l ≤ 8)
    (he : ∀ l', l = l' + 1 → Srv T w0 s tb R1e l' (pE T l')) (hi : Srv T w0 s tb R6 l (pInner T (subOf T l))) (h : Px T w0 s tb (pPrim T (subOf T l)) L o w K) : B.parsem_st_primary R1e R2 R3 R4 R5 R6 s (8 - (l : Int)) w K := by
  obtain ⟨h, hK⟩ := h
  unfold B.parsem_st_primary
  refine h.err (fun e q he hne => ?_) (fun x st he => ?_)
  · subst he
    rw [if_pos (by simpa using hne)]
    exact hK _ w h.errv fun _ _ h => by cases h
  subst he
  rw [if_neg (by simp)]
  simp only [bnd_ok] at hK
  refine drew_ ?_
  have h := h.drew
  generalize w.drew = w1 at *
  obtain ⟨sl, i, e, q, b1, hi1, b2, hst⟩ := h.rd
  have hst := hst _ _ rfl
  subst hst
  have hlt := h.lt
  refine ldS b1 rfl (ldI b1 rfl (ix rfl (by omega) (by dsimp only; omega) ?_))
  refine ldI b2 (m := knd T st.1) ((tokCell (k := 0) hi1 (by omega)).trans rfl) ?_
  refine ldI b2 (m := psn T st.1) ((tokCell (k := 1) hi1 (by omega)).trans rfl) ?_
  refine ldI b2 (m := (tk T st.1).val) ((tokCell (k := 2) hi1 (by omega)).trans rfl) ?_
  refine ldStr b2 (m := txt T st.1) ((tokCell (k := 3) hi1 (by omega)).trans rfl) ?_
  refine newB fun w2 c2 f2 s2 => ?_
  have h2 := h.new f2 (Nat.le_refl _) c2
  refine ⟨held b2 (b2.fr f2 (by omega)), held b1 (b1.fr f2 (by omega)), held b1 (b1.fr f2 (by omega)), ?_⟩
  refine h2.st (by simp) fun w3 h3 => h3.st (by simp) fun w4 h4 => h4.st (by simp) fun w5 h5 => h5.st (by simp) fun w6 h6 => ?_
  have h6 : PM T w0 s tb (.ok ((), st) : PR Unit) ((w1.heap.size, tokV (tk T st.1)) :: L) w6 := h6
  clear h2 h3 h4 h5 b1 b2 c2 f2
  generalize w1.heap.size = p13 at *
  refine ldI h6.loc rfl ?_
  refine mnode_spec fun w7 f7 => ?_
  refine (h6.ext f7).node (n := nd0 0 (psn T st.1)) fun p23 w8 h8 => ?_
  refine ldI h8.loc2 rfl ?_
  have hkd : (tk T st.1).kind = knd T st.1 := rfl
  rw [hkd]
  generalize hkk : knd T st.1 = k at *
  generalize hrr : pPrim T (subOf T l) st = tg at *
  refine join_W (fun u => ∃ (n : Nd) (o' : PR Unit), PM T w0 s tb o' ((p23, ndV n) :: (p13, tokV (tk T st.1)) :: L) u ∧ (bnd o' fun _ s => pAdd n s) = tg) ?_ ?_
  · rintro u ⟨n, o', hu, htg⟩
    refine ldNode hu.loc ?_
    refine madd_spec hu fun r w9 h9 hr9 => ?_
    rw [htg] at h9 hr9
    exact hK r w9 h9.tail.tail hr9
  intro J34 hJ34
  by_cases k2 : k = 2
  · rw [if_pos (by simp [k2])]
    refine drew_ ?_
    have h9 := h8.drew
    generalize w8.drew = w9 at *
    refine ldI h9.loc2 rfl ?_
    refine h9.st (by simp [ndV]) fun w10 h10 => ?_
    refine ⟨held h9.loc2 h10.loc2, ?_⟩
    refine h10.st (by simp [ndV]) fun w11 h11 => ?_
    refine mnext_spec h11 (fun x st' e => by cases e; omega) fun w12 h12 => ?_
    refine hJ34 w12 ⟨{ nd0 10 (psn T st.1) with val := (tk T st.1).val }, _, h12, ?_⟩
    rw [← hrr]
    unfold pPrim
    rw [if_pos (by omega)]; rfl
  rw [if_neg (by simpa using k2)]
  refine join_P (fun (j : Bool) u => u = w8 ∧ (j = true ↔ k = 10 ∨ k = 11)) ?_ ?_
  · rintro j u ⟨rfl, hj⟩
    by_cases k1011 : k = 10 ∨ k = 11
    · rw [if_pos (hj.2 k1011)]
      refine h8.st (by simp [ndV]) fun w9 h9 => ?_
      refine ldI h9.loc2 rfl ?_
      rw [hkd]
      by_cases k10 : k = 10
      · rw [if_pos (by simp [k10])]
        refine h9.st (by simp [ndV]) fun w10 h10 => ?_
        refine mnext_spec h10 (fun x st' e => by cases e; omega) fun w12 h12 => ?_
        refine hJ34 w12 ⟨{ nd0 11 (psn T st.1) with val := 1 }, _, h12, ?_⟩
        rw [← hrr]
        unfold pPrim
        rw [if_neg (by omega), if_pos (by omega)]; rfl
      · rw [if_neg (by simpa using k10)]
        refine mnext_spec h9 (fun x st' e => by cases e; omega) fun w12 h12 => ?_
        refine hJ34 w12 ⟨nd0 11 (psn T st.1), _, h12, ?_⟩
        rw [← hrr]
        unfold pPrim
        rw [if_neg (by omega), if_neg (by omega), if_pos (by omega)]; rfl
    rw [if_neg (fun e => k1011 (hj.1 e))]
    by_cases k17 : k = 17
    · rw [if_pos (by simp [k17])]
      refine hi.app h8.tail.tail fun r w9 h9 hr => ?_
      have e : pPrim T (subOf T l) st = pInner T (subOf T l) st := by
        unfold pPrim
        rw [if_neg (by omega), if_neg (by omega), if_neg (by omega), if_pos (by omega)]
      simp only [bnd_ok] at h9 hr
      rw [← e, hrr] at h9 hr
      exact hK r w9 h9 hr
    rw [if_neg (by simpa using k17)]
    by_cases k12 : k = 12
    · rw [if_pos (by simp [k12])]
      refine mnext_spec h8 (fun x st' e => by cases e; omega) fun w9 h9 => ?_
      refine h9.st (by simp [ndV]) fun w10 h10 => ?_
      refine mtyp_spec h10 fun t w11 h11 ht => ?_
      refine h11.st (by simp [ndV]) fun w12 h12 => ?_
      refine hi.app h12 fun r w13 h13 hr => ?_
      refine h13.st (by simp [ndV]) fun w14 h14 => ?_
      refine hJ34 w14 ⟨{ nd0 15 (psn T st.1) with val := t, a := r }, _, h14.val (f := fun _ => ()), ?_⟩
      rw [← hrr]
      unfold pPrim
      rw [if_neg (by omega), if_neg (by omega), if_neg (by omega), if_neg (by omega), if_pos (by omega)]
      simp only [bnd_ok] at ht hr ⊢
      rw [bnd_assoc, bnd_assoc]
      refine bnd_congr fun t' s1 e1 => ?_
      have ht1 := ht _ _ e1
      subst ht1
      refine bnd_congr fun x s2 e2 => ?_
      simp only [bnd_ok]
      rw [hr _ _ (by rw [e1]; exact e2)]
    rw [if_neg (by simpa using k12)]
    by_cases k13 : k = 13
    · rw [if_pos (by simp [k13])]
      refine mnext_spec h8 (fun x st' e => by cases e; omega) fun w9 h9 => ?_
      refine h9.st (by simp [ndV]) fun w10 h10 => ?_
      refine hi.app h10 fun r w13 h13 hr => ?_
      refine h13.st (by simp [ndV]) fun w14 h14 => ?_
      refine hJ34 w14 ⟨{ nd0 16 (psn T st.1) with a := r }, _, h14.val (f := fun _ => ()), ?_⟩
      rw [← hrr]
      unfold pPrim
      rw [if_neg (by omega), if_neg (by omega), if_neg (by omega), if_neg (by omega), if_neg (by omega), if_pos (by omega)]
      simp only [bnd_ok] at hr ⊢
      rw [bnd_assoc]
      refine bnd_congr fun x s2 e2 => ?_
      simp only [bnd_ok]
      rw [hr _ _ e2]
    rw [if_neg (by simpa using k13)]
    by_cases k14 : k = 14
    · rw [if_pos (by simp [k14])]
      refine mnext_spec h8 (fun x st' e => by cases e; omega) fun w9 h9 => ?_
      refine h9.st (by simp [ndV]) fun w10 h10 => ?_
      refine mwant_spec h10 (by omega) fun r43 w11 h11 _ => ?_
      refine mwant_spec h11 (by omega) fun r44 w12 h12 _ => ?_
      refine hJ34 w12 ⟨nd0 17 (psn T st.1), _, h12, ?_⟩
      rw [← hrr]
      unfold pPrim
      rw [if_neg (by omega), if_neg (by omega), if_neg (by omega), if_neg (by omega), if_neg (by omega), if_neg (by omega), if_pos (by omega)]
      simp only [bnd_ok]
      rw [bnd_assoc]
    rw [if_neg (by simpa using k14)]
    by_cases k1 : k = 1
    · rw [if_pos (by simp [k1])]
      have etg : tg = pCall T (subOf T l) st := by
        rw [← hrr]
        unfold pPrim
        rw [if_neg (by omega), if_neg (by omega), if_neg (by omega), if_neg (by omega), if_neg (by omega), if_neg (by omega), if_neg (by omega), if_pos (by omega)]
      refine mnext_spec h8 (fun x st' e => by cases e; omega) fun w9 h9 => ?_
      simp only [bnd_ok] at h9
      refine drew_ ?_
      have h9 := h9.drew
      generalize w9.drew = w9 at *
      refine ldStr h9.loc2 rfl ?_
      refine h9.st (by simp [ndV]) fun w10 h10 => ?_
      refine ⟨held h9.loc2 h10.loc2, ?_⟩
      refine h10.st (by simp [ndV]) fun w11 h11 => ?_
      have h11 : PM T w0 s tb (.ok ((), st.1 + 1, st.2) : PR Unit) ((p23, ndV { nd0 12 (psn T st.1) with name := txt T st.1 }) :: (p13, tokV (tk T st.1)) :: L) w11 := h11
      refine mkind_spec h11 fun r47 w12 h12 hr47 => ?_
      have hr47 := hr47 _ _ rfl
      subst hr47
      dsimp only
      by_cases kp : knd T (st.1 + 1) = 17
      · rw [if_pos (by simp [kp])]
        refine menter_spec (β := Int) h12 (fun w13 h13 hok hd => ?_) (fun w13 h13 hor => ?_)
        · rw [if_neg (by simp)]
          cases l with
          | zero => omega
          | succ l' =>
            refine mnext_spec h13 (fun x st' e => by cases e; dsimp only; omega) fun w14 h14 => ?_
            refine h14.st (by simp [ndV]) fun w15 h15 => ?_
            have h15 : PM T w0 s tb (.ok ((-1, -1), st.1 + 2, st.2) : PR (Int × Int)) ((p23, ndV { nd0 13 (psn T st.1) with name := txt T st.1 }) :: (p13, tokV (tk T st.1)) :: L) w15 := h15.okv
            have hadv := fun x => adv_arg (T := T) (adv_E l') x
            have etg2 : tg = bnd (row T 18 (pArg T (pE T l')) (-1, -1) (st.1 + 2, st.2)) fun x s => bnd (pTake T 18 s) fun _ s => pAdd { nd0 13 (psn T st.1) with a := x, name := txt T st.1 } s := by
              rw [etg]
              unfold pCall
              rw [if_pos kp, subOf_succ]
            have hlt15 := h15.lt
            -- the end of the arguments
            have fin : ∀ (u : World) (a : Int) (o' : PR Unit), PM T w0 s tb o' ((p23, ndV { nd0 13 (psn T st.1) with a := a, name := txt T st.1 }) :: (p13, tokV (tk T st.1)) :: L) u →
                (bnd o' fun _ s => (.ok (a, s) : PR Int)) = row T 18 (pArg T (pE T l')) (-1, -1) (st.1 + 2, st.2) → S.parsem_st_want s 18 u (fun r59 w => J34 w) := by
              intro u a o' hu heq
              refine mwant_spec hu (by omega) fun r59 w16 h16 _ => ?_
              refine hJ34 w16 ⟨_, _, h16, ?_⟩
              rw [etg2, ← heq, bnd_assoc, bnd_assoc]
              rfl
            refine loopN (fun m v u => ∃ (a last : Int) (o2 : PR (Int × Int)), v = (last, ()) ∧ PM T w0 s tb o2 ((p23, ndV { nd0 13 (psn T st.1) with a := a, name := txt T st.1 }) :: (p13, tokV (tk T st.1)) :: L) u ∧
                (bnd o2 fun v s => row T 18 (pArg T (pE T l')) v s) = row T 18 (pArg T (pE T l')) (-1, -1) (st.1 + 2, st.2) ∧ (∀ y st', o2 = .ok (y, st') → y = (a, last) ∧ m = T.length - st'.1 ∧ (a < 0 ↔ last < 0) ∧ last < st'.2.length)) (T.length - (st.1 + 2))
              ⟨-1, -1, _, rfl, h15, rfl, fun y st' e => by cases e; exact ⟨rfl, rfl, by simp, by omega⟩⟩ ?_
            rintro m _ u ⟨a, last, o2, rfl, hu, heq, hv⟩ Q hQ
            dsimp only
            refine hu.err (fun e q he1 hne => ?_) (fun y st2 he1 => ?_)
            · subst he1
              rw [if_neg (by simpa using hne)]
              exact fin u a _ hu.errv (by rw [← heq]; rfl)
            subst he1
            rw [if_pos (by rfl)]
            obtain ⟨rfl, rfl, hfl, hll⟩ := hv _ _ rfl
            have hlt2 := hu.lt
            refine mkind_spec hu fun r52 w16 h16 hr52 => ?_
            have hr52 := hr52 _ _ rfl
            subst hr52
            simp only [bnd_ok] at heq
            by_cases k18 : knd T st2.1 = 18
            · rw [if_neg (by simp [k18])]
              refine fin w16 a (.ok ((), st2)) h16.okv ?_
              rw [row_stop k18] at heq
              exact heq
            rw [if_pos (by simpa using k18)]
            rw [row_step hadv (by omega) k18] at heq
            refine ldI h16.loc rfl ?_
            refine join_W (fun u' => ∃ o3 : PR Unit, PM T w0 s tb o3 ((p23, ndV { nd0 13 (psn T st.1) with a := a, name := txt T st.1 }) :: (p13, tokV (tk T st.1)) :: L) u' ∧ o3 = pComma T a st2) ?_ ?_
            · rintro u' ⟨o3, hu', ho3⟩
              rw [mdeep (by omega)]
              refine (he l' rfl).app hu' fun r54 w17 h17 hr54 => ?_
              refine ldI h17.loc rfl ?_
              have e4 : (bnd o3 fun _ st => pE T l' st) = pArg T (pE T l') a st2 := by rw [ho3]; rfl
              rw [e4] at h17 hr54
              have hlen4 : ∀ y st', pArg T (pE T l') a st2 = .ok (y, st') → last < st'.2.length ∧ y < st'.2.length ∧ 0 ≤ y := fun y st' e => by
                obtain ⟨a1, _⟩ := mk_arg (mk_E h16.tok.val l') a _ _ _ e
                have := a1.lt
                have := a1.top
                omega
              refine mlink_spec h17 (fun y st' e => ⟨hfl, (hlen4 y st' e).1⟩) fun r56 w18 h18 hr56 => ?_
              refine h18.st (by simp [ndV]) fun w19 h19 => ?_
              have h19' : PM T w0 s tb (bnd (pArg T (pE T l') a st2) fun y s => .ok ((if a < 0 then y else a, y), pHang last y s)) ((p23, ndV { nd0 13 (psn T st.1) with a := r56, name := txt T st.1 }) :: (p13, tokV (tk T st.1)) :: L) w19 := by
                rcases ho : pArg T (pE T l') a st2 with q | ⟨y, st'⟩
                · rw [ho] at h19; exact h19.errv
                · rw [ho] at h19
                  have := hr54 _ _ ho
                  subst this
                  exact h19.okv
              refine hQ (match pArg T (pE T l') a st2 with | .ok (_, st) => T.length - st.1 | .error _ => 0) _ w19 ?_ ⟨r56, r54, _, rfl, h19', ?_, ?_⟩
              · rcases ho : pArg T (pE T l') a st2 with q | ⟨y, st'⟩
                · dsimp only; omega
                · have := hadv _ _ _ _ ho
                  dsimp only; omega
              · rw [bnd_assoc]
                exact heq
              · intro y st' e
                rcases ho : pArg T (pE T l') a st2 with q | ⟨y', st''⟩
                · rw [ho] at e; cases e
                · rw [ho] at e
                  cases e
                  have e1 := hr54 _ _ ho
                  have e2 := hr56 _ _ ho
                  have e3 := hlen4 _ _ ho
                  subst e1
                  refine ⟨by rw [e2], by simp, ?_, by simpa using e3.2.1⟩
                  rw [e2]
                  split <;> omega
            · intro J57 hJ57
              by_cases ha : a < 0
              · rw [if_neg (by simp only [decide_eq_true_eq]; show ¬ a ≥ 0; omega)]
                exact hJ57 w16 ⟨_, h16.okv, by unfold pComma; rw [if_pos ha]⟩
              · rw [if_pos (by simp only [decide_eq_true_eq]; show a ≥ 0; omega)]
                refine mwant_spec h16 (by omega) fun r58 w17 h17 _ => ?_
                exact hJ57 w17 ⟨_, h17, by unfold pComma; rw [if_neg ha]; rfl⟩
        · rw [if_pos (by simp)]
          have e : tg = .error (11, psn T (st.1 + 1)) := by
            rw [etg]
            unfold pCall
            rw [if_pos kp]
            rcases hor with ⟨q, hq⟩ | hd
            · cases hq
            · have : l = 0 := by omega
              subst this
              rfl
          refine hK _ w13 (h13.tail.tail.conv e.symm) fun x st e' => ?_
          rw [e] at e'; cases e'
      · rw [if_neg (by simpa using kp)]
        refine hJ34 w12 ⟨_, _, h12, ?_⟩
        rw [etg]
        unfold pCall
        rw [if_neg kp]; rfl
    rw [if_neg (by simpa using k1)]
    refine ldI h8.loc2 rfl ?_
    refine mfail_spec (β := Int) h8 (by omega) fun w9 h9 => ?_
    have e : tg = .error (10, psn T st.1) := by
      rw [← hrr]
      unfold pPrim
      rw [if_neg (by omega), if_neg (by omega), if_neg (by omega), if_neg (by omega), if_neg (by omega), if_neg (by omega), if_neg (by omega), if_neg (by omega)]
    refine hK _ w9 (h9.tail.tail.conv e.symm) fun x st e' => ?_
    rw [e] at e'; cases e'
  · intro J63 hJ63
    by_cases k10 : k = 10
    · rw [if_pos (by simp [k10])]
      exact hJ63 _ w8 ⟨rfl, by simp [k10]⟩
    · rw [if_neg (by simpa using k10)]
      exact hJ63 _ w8 ⟨rfl, by simp [k10]⟩
/-- The expressions' functions, all. -/
theorem mexpr_srv (T : List Tok) (w0 : World) (s tb : Nat) {l : Nat} (hl : l ≤ 8) : Srv T w0 s tb S.parsem_st_expr l (pE T l) := by
  intro L o w K h
  refine ⟨fun n s' d w K => ∃ (l : Nat) (L : List (Nat × List Value)) (o : PR Unit), s' = s ∧ d = 8 - (l : Int) ∧ l ≤ 8 ∧ n = l * 16 + 10 ∧ Px T w0 s tb (pE T l) L o w K,
    fun n s' lv d w K => ∃ (l m : Nat) (L : List (Nat × List Value)) (o : PR Unit), s' = s ∧ d = 8 - (l : Int) ∧ l ≤ 8 ∧ lv = (m : Nat) ∧ 1 ≤ m ∧ m ≤ 6 ∧ n = l * 16 + 10 - m ∧ Px T w0 s tb (climb T (pU T l) m) L o w K,
    fun n s' d w K => ∃ (l : Nat) (L : List (Nat × List Value)) (o : PR Unit), s' = s ∧ d = 8 - (l : Int) ∧ l ≤ 8 ∧ n = l * 16 + 3 ∧ Px T w0 s tb (pU T l) L o w K,
    fun n s' d w K => ∃ (l : Nat) (L : List (Nat × List Value)) (o : PR Unit), s' = s ∧ d = 8 - (l : Int) ∧ l ≤ 8 ∧ n = l * 16 + 2 ∧ Px T w0 s tb (pPost T (subOf T l)) L o w K,
    fun n s' d w K => ∃ (l : Nat) (L : List (Nat × List Value)) (o : PR Unit), s' = s ∧ d = 8 - (l : Int) ∧ l ≤ 8 ∧ n = l * 16 + 1 ∧ Px T w0 s tb (pPrim T (subOf T l)) L o w K,
    fun n s' d w K => ∃ (l : Nat) (L : List (Nat × List Value)) (o : PR Unit), s' = s ∧ d = 8 - (l : Int) ∧ l ≤ 8 ∧ n = l * 16 ∧ Px T w0 s tb (pInner T (subOf T l)) L o w K,
    ⟨?_, ?_, ?_, ?_, ?_, ?_⟩, l * 16 + 10, l, L, o, rfl, rfl, hl, rfl, h⟩
  · rintro n s' d w K ⟨l, L, o, rfl, rfl, hl, rfl, h⟩
    unfold B.parsem_st_expr
    exact ⟨l * 16 + 10 - 1, by omega, l, 1, L, o, rfl, rfl, hl, rfl, by omega, by omega, rfl, h⟩
  · rintro n s' lv d w K ⟨l, m, L, o, rfl, rfl, hl, rfl, hm1, hm6, rfl, h⟩
    refine mlevel_body hl hm1 hm6 (fun e L o w K hp => ?_) (fun e L o w K hp => ?_) h
    · exact ⟨l * 16 + 3, by omega, l, L, o, rfl, rfl, hl, rfl, hp⟩
    · exact ⟨l * 16 + 10 - (m + 1), by omega, l, m + 1, L, o, rfl, rfl, hl, rfl, by omega, by omega, rfl, hp⟩
  · rintro n s' d w K ⟨l, L, o, rfl, rfl, hl, rfl, h⟩
    refine mun_body hl (fun l' e L o w K hp => ?_) (fun L o w K hp => ?_) h
    · exact ⟨l' * 16 + 3, by omega, l', L, o, rfl, rfl, by omega, rfl, hp⟩
    · exact ⟨l * 16 + 2, by omega, l, L, o, rfl, rfl, hl, rfl, hp⟩
  · rintro n s' d w K ⟨l, L, o, rfl, rfl, hl, rfl, h⟩
    refine mpost_body hl (fun l' e L o w K hp => ?_) (fun L o w K hp => ?_) h
    · exact ⟨l' * 16 + 10, by omega, l', L, o, rfl, rfl, by omega, rfl, hp⟩
    · exact ⟨l * 16 + 1, by omega, l, L, o, rfl, rfl, hl, rfl, hp⟩
  · rintro n s' d w K ⟨l, L, o, rfl, rfl, hl, rfl, h⟩
    refine mprim_body hl (fun l' e L o w K hp => ?_) (fun L o w K hp => ?_) h
    · exact ⟨l' * 16 + 10, by omega, l', L, o, rfl, rfl, by omega, rfl, hp⟩
    · exact ⟨l * 16, by omega, l, L, o, rfl, rfl, hl, rfl, hp⟩
  · rintro n s' d w K ⟨l, L, o, rfl, rfl, hl, rfl, h⟩
    refine minner_body hl (fun l' e L o w K hp => ?_) h
    exact ⟨l' * 16 + 10, by omega, l', L, o, rfl, rfl, by omega, rfl, hp⟩
end Go.Proofs.Qxb6500562aGreat
