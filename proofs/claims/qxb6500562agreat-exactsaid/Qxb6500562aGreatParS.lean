/-
  The model's parser: blocks, functions, programs.
-/
import Derived.Test.Qxb6500562aGreatParR
namespace Go.Proofs.Qxb6500562aGreat
open Go.Den Go.Zip
set_option linter.unusedVariables false
set_option linter.unusedSimpArgs false
variable {α β : Type} {T : List Tok} {w0 w w' : World} {s tb p : Nat} {L : List (Nat × List Value)} {vs : List Value}

theorem mblk_body {R1b R2s : R1} {l : Nat} {o : PR Unit} {K : Int → World → Prop} (hl : l ≤ 8)
    (hs : ∀ l', l = l' + 1 → SrvS T w0 s tb R2s l' (pStmt T l' (pBlk T l'))) (h : Px T w0 s tb (pBlk T l) L o w K) : B.parsem_st_block R1b R2s s (8 - (l : Int)) w K := by
  obtain ⟨h, hK⟩ := h
  unfold B.parsem_st_block
  refine join_W (fun u => PM T w0 s tb o L u ∧ ∀ x st, o = .ok (x, st) → knd T st.1 = 19) ?_ ?_
  · rintro u ⟨h, hk⟩
    refine menter_spec (β := Int) h (fun w1 h1 hok hd => ?_) (fun w1 h1 hor => ?_)
    · obtain ⟨_, st, rfl⟩ := hok
      have hk := hk _ _ rfl
      rw [if_neg (by simp)]
      simp only [bnd_ok] at hK
      cases l with
      | zero => omega
      | succ l' =>
        have hmk := fun f : Int => mk_stmt h1.tok.val (mk_blk h1.tok.val l') l'
        have hadv : ∀ x : Int, Adv T ((fun _ => pStmt T l' (pBlk T l')) x) := fun _ => adv_stmt (adv_blk l') l'
        refine mwant_spec h1 (by omega) fun r2 w2 h2 hr2 => ?_
        have hr2 := hr2 _ _ rfl
        subst hr2
        have e19 : (bnd (.ok ((), st) : PR Unit) fun _ s => pTake T 19 s) = .ok ((), st.1 + 1, st.2) := by simp only [bnd_ok, pTake, if_pos hk]
        rw [e19] at h2
        refine mnode_spec fun w3 f3 => ?_
        refine (h2.ext f3).node (n := nd0 2 (psn T st.1)) fun p11 w4 h4 => ?_
        have h4 : PM T w0 s tb (.ok ((-1, -1), st.1 + 1, st.2) : PR (Int × Int)) ((p11, ndV (nd0 2 (psn T st.1))) :: L) w4 := h4.okv
        have etg : pBlk T (l' + 1) st = bnd (row T 20 (fun _ => pStmt T l' (pBlk T l')) (-1, -1) (st.1 + 1, st.2)) fun x s => bnd (pTake T 20 s) fun _ s => pAdd { nd0 2 (psn T st.1) with a := x } s := by
          conv => lhs; unfold pBlk
          rw [if_pos hk]
        refine join_W (fun u => ∃ (a : Int) (o' : PR Unit), PM T w0 s tb o' ((p11, ndV { nd0 2 (psn T st.1) with a := a }) :: L) u ∧ (bnd o' fun _ s => (.ok (a, s) : PR Int)) = row T 20 (fun _ => pStmt T l' (pBlk T l')) (-1, -1) (st.1 + 1, st.2)) ?_ ?_
        · rintro u ⟨a, o', hu, heq⟩
          refine mwant_spec hu (by omega) fun r12 w5 h5 _ => ?_
          refine ldNode h5.loc ?_
          refine madd_spec h5.tail fun r21 w6 h6 hr6 => ?_
          have e : (bnd (bnd o' fun _ s => pTake T 20 s) fun _ s => pAdd { nd0 2 (psn T st.1) with a := a } s) = pBlk T (l' + 1) st := by
            rw [etg, ← heq, bnd_assoc, bnd_assoc]; rfl
          rw [e] at h6 hr6
          exact hK _ w6 h6 hr6
        · intro J22 hJ22
          refine loopN (fun m v u => ∃ (a last : Int) (o2 : PR (Int × Int)), v = (last, ()) ∧ PM T w0 s tb o2 ((p11, ndV { nd0 2 (psn T st.1) with a := a }) :: L) u ∧
              (bnd o2 fun v s => row T 20 (fun _ => pStmt T l' (pBlk T l')) v s) = row T 20 (fun _ => pStmt T l' (pBlk T l')) (-1, -1) (st.1 + 1, st.2) ∧ (∀ y st', o2 = .ok (y, st') → y = (a, last) ∧ m = T.length - st'.1 ∧ (a < 0 ↔ last < 0) ∧ last < st'.2.length)) (T.length - (st.1 + 1))
            ⟨-1, -1, _, rfl, h4, rfl, fun y st' e => by cases e; exact ⟨rfl, rfl, by simp, by omega⟩⟩ ?_
          rintro m _ u ⟨a, last, o2, rfl, hu, heq, hv⟩ Q hQ
          dsimp only
          refine hu.err (fun e q he1 hne => ?_) (fun y st2 he1 => ?_)
          · subst he1
            rw [if_neg (by simpa using hne)]
            exact hJ22 u ⟨a, .error (e, q), hu.errv, by rw [← heq]; rfl⟩
          subst he1
          rw [if_pos (by rfl)]
          obtain ⟨rfl, rfl, hfl, hll⟩ := hv _ _ rfl
          have hlt2 := hu.lt
          refine mkind_spec hu fun r26 w16 h16 hr26 => ?_
          have hr26 := hr26 _ _ rfl
          subst hr26
          simp only [bnd_ok] at heq
          by_cases k20 : knd T st2.1 = 20
          · rw [if_neg (by simp [k20])]
            rw [row_stop k20] at heq
            exact hJ22 w16 ⟨a, .ok ((), st2), h16.okv, heq⟩
          rw [if_pos (by simpa using k20)]
          rw [row_step hadv (by omega) k20] at heq
          rw [mdeep (by omega)]
          refine hs l' rfl _ st2 w16 _ h16.okv fun r27 w17 h17 hr27 => ?_
          refine ldI h17.loc rfl ?_
          have hlen4 : ∀ y st', pStmt T l' (pBlk T l') st2 = .ok (y, st') → last < st'.2.length ∧ y < st'.2.length ∧ 0 ≤ y := fun y st' e => by
            obtain ⟨a1, _⟩ := hmk a _ _ _ e
            have := a1.lt
            have := a1.top
            omega
          refine mlink_spec h17 (fun y st' e => ⟨hfl, (hlen4 y st' e).1⟩) fun r29 w18 h18 hr29 => ?_
          refine h18.st (by simp [ndV]) fun w19 h19 => ?_
          have h19' : PM T w0 s tb (bnd (pStmt T l' (pBlk T l') st2) fun y s => .ok ((if a < 0 then y else a, y), pHang last y s)) ((p11, ndV { nd0 2 (psn T st.1) with a := r29 }) :: L) w19 := by
            rcases ho : pStmt T l' (pBlk T l') st2 with q | ⟨y, st'⟩
            · rw [ho] at h19; exact h19.errv
            · rw [ho] at h19
              have := hr27 _ _ ho
              subst this
              exact h19.okv
          refine hQ (match pStmt T l' (pBlk T l') st2 with | .ok (_, st) => T.length - st.1 | .error _ => 0) _ w19 ?_ ⟨r29, r27, _, rfl, h19', ?_, ?_⟩
          · rcases ho : pStmt T l' (pBlk T l') st2 with q | ⟨y, st'⟩
            · dsimp only; omega
            · have := hadv 0 _ _ _ ho
              dsimp only; omega
          · rw [bnd_assoc]
            exact heq
          · intro y st' e
            rcases ho : pStmt T l' (pBlk T l') st2 with q | ⟨y', st''⟩
            · rw [ho] at e; cases e
            · rw [ho] at e
              cases e
              have e1 := hr27 _ _ ho
              have e2 := hr29 _ _ ho
              have e3 := hlen4 _ _ ho
              subst e1
              refine ⟨by rw [e2], by simp, ?_, by simpa using e3.2.1⟩
              rw [e2]
              split <;> omega
    · rw [if_pos (by simp)]
      have e : (bnd o fun _ s => (.error (11, psn T s.1) : PR Int)) = bnd o fun _ st => pBlk T l st := by
        refine bnd_congr fun x st e => ?_
        subst e
        rcases hor with ⟨q, hq⟩ | hd
        · cases hq
        · have : l = 0 := by omega
          subst this
          unfold pBlk
          rw [if_pos (hk _ _ rfl)]
      refine hK _ w1 (h1.conv e) fun x st e' => ?_
      rw [← e] at e'
      obtain ⟨_, _, _, e'⟩ := bnd_inv e'
      cases e'
  · intro J hJ
    refine h.err (fun e q he hne => ?_) (fun x st he => ?_)
    · subst he
      rw [if_neg (by simpa using hne)]
      exact hJ w ⟨h, fun _ _ h => by cases h⟩
    · subst he
      rw [if_pos (by rfl)]
      refine mkind_spec h fun r w1 h1 hr => ?_
      rw [hr _ _ rfl]
      by_cases hk : knd T st.1 = 19
      · rw [if_neg (by simp [hk])]
        exact hJ w1 ⟨h1, fun _ _ h => by cases h; exact hk⟩
      · rw [if_pos (by simpa using hk)]
        refine mat_spec h1 fun r7 w2 h2 hr7 => ?_
        refine mfail_spec (β := Int) h2 (by omega) fun w3 h3 => ?_
        rw [hr7 _ _ rfl] at h3
        have e : pBlk T l st = .error (10, psn T st.1) := by
          cases l with
          | zero => unfold pBlk; rw [if_neg hk]
          | succ l' => unfold pBlk; rw [if_neg hk]
        refine hK _ w3 (h3.conv e.symm) fun x st' e' => ?_
        simp only [bnd_ok, e] at e'
        cases e'
theorem mblk_srv (T : List Tok) (w0 : World) (s tb : Nat) {l : Nat} (hl : l ≤ 8) : Srv T w0 s tb S.parsem_st_block l (pBlk T l) := by
  intro L o w K h
  refine ⟨fun n s' d w K => ∃ (l : Nat) (L : List (Nat × List Value)) (o : PR Unit), s' = s ∧ d = 8 - (l : Int) ∧ l ≤ 8 ∧ n = l * 2 ∧ Px T w0 s tb (pBlk T l) L o w K,
    fun n s' d w K => ∃ (l : Nat) (L : List (Nat × List Value)) (st : PS), s' = s ∧ d = 8 - (l : Int) ∧ l ≤ 8 ∧ n = l * 2 + 1 ∧ PM T w0 s tb (.ok ((), st) : PR Unit) L w ∧ (∀ r w', PM T w0 s tb (pStmt T l (pBlk T l) st) L w' → (∀ x st', pStmt T l (pBlk T l) st = .ok (x, st') → r = x) → K r w'),
    ⟨?_, ?_⟩, l * 2, l, L, o, rfl, rfl, hl, rfl, h⟩
  · rintro n s' d w K ⟨l, L, o, rfl, rfl, hl, rfl, h⟩
    refine mblk_body hl (fun l' e L st w K h1 h2 => ?_) h
    exact ⟨l' * 2 + 1, by omega, l', L, st, rfl, rfl, by omega, rfl, h1, h2⟩
  · rintro n s' d w K ⟨l, L, st, rfl, rfl, hl, rfl, h1, h2⟩
    refine mstmt_body hl (fun L o w K hp => ?_) h1 h2
    exact ⟨l * 2, by omega, l, L, o, rfl, rfl, hl, rfl, hp⟩
theorem mfunc_spec {st : PS} {K : Int → World → Prop} (h : PM T w0 s tb (.ok ((), st) : PR Unit) L w) (hK : ∀ r w', PM T w0 s tb (pFunc T st) L w' → (∀ x st', pFunc T st = .ok (x, st') → r = x) → K r w') : S.parsem_st_function s w K := by
  unfold S.parsem_st_function
  refine mwant_spec h (by omega) fun r1 w1 h1 _ => ?_
  simp only [bnd_ok] at h1
  refine mnode_spec fun w2 f2 => ?_
  refine (h1.ext f2).node (n := nd0 0 0) fun p10 w3 h3 => ?_
  refine mname_spec h3 fun nm r12 w4 h4 hr4 => ?_
  refine h4.st (by simp [ndV]) fun w5 h5 => ?_
  refine h5.st (by simp [ndV]) fun w6 h6 => ?_
  refine mwant_spec h6 (by omega) fun r13 w7 h7 _ => ?_
  have h7 : PM T w0 s tb _ ((p10, ndV { nd0 0 r12 with name := nm }) :: L) w7 := h7
  generalize ho2 : (bnd (bnd (pTake T 3 st) fun _ s => pTake T 1 s) fun _ s => pTake T 17 s) = o2 at *
  have hmk := fun f : Int => mk_param (T := T) h.tok.val f
  have hadv := fun x : Int => adv_param (T := T) x
  refine join_W (fun u => ∃ (a : Int) (o' : PR Unit), PM T w0 s tb o' ((p10, ndV { nd0 0 r12 with name := nm, a := a }) :: L) u ∧ (bnd o' fun _ s => (.ok (a, s) : PR Int)) = bnd o2 fun _ s => row T 18 (pParam T) (-1, -1) s) ?_ ?_
  · rintro u ⟨a, o', hu, heq⟩
    refine mwant_spec hu (by omega) fun r14 w8 h8 _ => ?_
    refine mtyp_spec h8 fun r15 w9 h9 hr9 => ?_
    refine h9.st (by simp [ndV]) fun w10 h10 => ?_
    have hb := mblk_srv T w0 s tb (l := 8) (by omega)
    refine hb.app (l := 8) h10 fun r16 w11 h11 hr11 => ?_
    refine h11.st (by simp [ndV]) fun w12 h12 => ?_
    refine ldNode (n := { nd0 0 r12 with name := nm, a := a, b := r16, val := r15 }) h12.loc ?_
    refine madd_spec h12.tail fun r25 w13 h13 hr13 => ?_
    have e : (bnd (bnd (bnd (bnd o' fun _ s => pTake T 18 s) fun _ s => pTyp T s) fun _ st => pBlk T 8 st) fun _ s => pAdd { nd0 0 r12 with name := nm, a := a, b := r16, val := r15 } s) = pFunc T st := by
      unfold pFunc
      have e2 : (bnd (pTake T 3 st) fun _ s => bnd (pTake T 1 s) fun _ s1 => bnd (pTake T 17 s1) fun _ s2 => bnd (row T 18 (pParam T) (-1, -1) s2) fun a s3 => bnd (pTake T 18 s3) fun _ s4 => bnd (pTyp T s4) fun t s5 => bnd (pBlk T 8 s5) fun b s6 =>
          pAdd { nd0 0 (psn T s.1) with name := txt T s.1, a := a, b := b, val := t } s6) =
          bnd (bnd o2 fun _ s => row T 18 (pParam T) (-1, -1) s) fun a s3 => bnd (pTake T 18 s3) fun _ s4 => bnd (pTyp T s4) fun t s5 => bnd (pBlk T 8 s5) fun b s6 => pAdd { nd0 0 r12 with name := nm, a := a, b := b, val := t } s6 := by
        rw [← ho2]
        simp only [bnd_assoc]
        refine bnd_congr fun _ s1 e1 => bnd_congr fun _ s2 e2 => bnd_congr fun _ s3 e3 => bnd_congr fun a s4 e4 => bnd_congr fun _ s5 e5 => bnd_congr fun t s6 e6 => bnd_congr fun b s7 e7 => ?_
        obtain ⟨q1, q2⟩ := hr4 _ _ e1
        rw [q1, q2]
      rw [e2, ← heq]
      simp only [bnd_assoc, bnd_ok] at hr9 hr11 ⊢
      refine bnd_congr fun _ s1 e1 => bnd_congr fun _ s2 e2 => bnd_congr fun t s3 e3 => bnd_congr fun b s4 e4 => ?_
      rw [hr9 t s3 (by rw [e1]; simp only [bnd_ok]; rw [e2]; exact e3), hr11 b s4 (by rw [e1]; simp only [bnd_ok]; rw [e2]; simp only [bnd_ok]; rw [e3]; exact e4)]
    rw [e] at h13 hr13
    exact hK _ w13 h13 hr13
  · intro J26 hJ26
    have h7v : PM T w0 s tb (bnd o2 fun _ s => (.ok ((-1, -1), s) : PR (Int × Int))) ((p10, ndV { nd0 0 r12 with name := nm }) :: L) w7 := h7.val (f := fun _ => ((-1 : Int), (-1 : Int)))
    have hinit : (bnd (bnd o2 fun _ s => (.ok ((-1, -1), s) : PR (Int × Int))) fun v s => row T 18 (pParam T) v s) = bnd o2 fun _ s => row T 18 (pParam T) (-1, -1) s := by rw [bnd_assoc]; rfl
    generalize (bnd o2 fun _ s => row T 18 (pParam T) (-1, -1) s) = tg at *
    generalize hov : (bnd o2 fun _ s => (.ok ((-1, -1), s) : PR (Int × Int))) = ov at *
    refine loopN (fun m v u => ∃ (a last : Int) (o3 : PR (Int × Int)), v = (last, ()) ∧ PM T w0 s tb o3 ((p10, ndV { nd0 0 r12 with name := nm, a := a }) :: L) u ∧
        (bnd o3 fun v s => row T 18 (pParam T) v s) = tg ∧ (∀ y st', o3 = .ok (y, st') → y = (a, last) ∧ m = T.length - st'.1 ∧ (a < 0 ↔ last < 0) ∧ last < st'.2.length)) (match ov with | .ok (_, st) => T.length - st.1 | .error _ => 0)
      ⟨-1, -1, ov, rfl, h7v, hinit, fun y st' e => ?_⟩ ?_
    · rw [← hov] at e
      obtain ⟨_, s1, e1, e⟩ := bnd_inv e
      cases e
      subst e1
      simp only [bnd_ok] at hov
      subst hov
      exact ⟨rfl, rfl, by simp, by omega⟩
    rintro m _ u ⟨a, last, o3, rfl, hu, heq, hv⟩ Q hQ
    dsimp only
    refine hu.err (fun e q he1 hne => ?_) (fun y st2 he1 => ?_)
    · subst he1
      rw [if_neg (by simpa using hne)]
      exact hJ26 u ⟨a, .error (e, q), hu.errv, by rw [← heq]; rfl⟩
    subst he1
    rw [if_pos (by rfl)]
    obtain ⟨rfl, rfl, hfl, hll⟩ := hv _ _ rfl
    have hlt2 := hu.lt
    refine mkind_spec hu fun r30 w16 h16 hr30 => ?_
    have hr30 := hr30 _ _ rfl
    subst hr30
    simp only [bnd_ok] at heq
    by_cases k18 : knd T st2.1 = 18
    · rw [if_neg (by simp [k18])]
      rw [row_stop k18] at heq
      exact hJ26 w16 ⟨a, .ok ((), st2), h16.okv, heq⟩
    rw [if_pos (by simpa using k18)]
    rw [row_step hadv (by omega) k18] at heq
    refine ldI h16.loc rfl ?_
    refine join_W (fun u' => ∃ o3 : PR Unit, PM T w0 s tb o3 ((p10, ndV { nd0 0 r12 with name := nm, a := a }) :: L) u' ∧ o3 = pComma T a st2) ?_ ?_
    · rintro u' ⟨o3, hu', ho3⟩
      refine mnode_spec fun w17 f17 => ?_
      refine (hu'.ext f17).node (n := nd0 1 0) fun p40 w18 h18 => ?_
      refine mname_spec h18 fun nm2 r42 w19 h19 hr19 => ?_
      refine h19.st (by simp [ndV]) fun w20 h20 => ?_
      refine h20.st (by simp [ndV]) fun w21 h21 => ?_
      refine mtyp_spec h21 fun r43 w22 h22 hr22 => ?_
      refine h22.st (by simp [ndV]) fun w23 h23 => ?_
      refine ldNode (n := { nd0 1 r42 with val := r43, name := nm2 }) h23.loc ?_
      refine madd_spec h23.tail fun r52 w24 h24 hr24 => ?_
      have e4 : (bnd (bnd (bnd o3 fun _ s => pTake T 1 s) fun _ s => pTyp T s) fun _ s => pAdd { nd0 1 r42 with val := r43, name := nm2 } s) = pParam T a st2 := by
        unfold pParam
        rw [← ho3]
        simp only [bnd_assoc]
        refine bnd_congr fun _ s1 e1 => bnd_congr fun _ s2 e2 => bnd_congr fun t s3 e3 => ?_
        obtain ⟨q1, q2⟩ := hr19 _ _ e1
        rw [q1, q2, hr22 t s3 (by rw [e1]; simp only [bnd_ok]; rw [e2]; exact e3)]
      rw [e4] at h24 hr24
      refine ldI h24.loc rfl ?_
      have hlen4 : ∀ y st', pParam T a st2 = .ok (y, st') → last < st'.2.length ∧ y < st'.2.length ∧ 0 ≤ y := fun y st' e => by
        obtain ⟨a1, _⟩ := hmk a _ _ _ e
        have := a1.lt
        have := a1.top
        omega
      refine mlink_spec h24 (fun y st' e => ⟨hfl, (hlen4 y st' e).1⟩) fun r54 w25 h25 hr25 => ?_
      refine h25.st (by simp [ndV]) fun w26 h26 => ?_
      have h26' : PM T w0 s tb (bnd (pParam T a st2) fun y s => .ok ((if a < 0 then y else a, y), pHang last y s)) ((p10, ndV { nd0 0 r12 with name := nm, a := r54 }) :: L) w26 := by
        rcases ho : pParam T a st2 with q | ⟨y, st'⟩
        · rw [ho] at h26; exact h26.errv
        · rw [ho] at h26
          have := hr24 _ _ ho
          subst this
          exact h26.okv
      refine hQ (match pParam T a st2 with | .ok (_, st) => T.length - st.1 | .error _ => 0) _ w26 ?_ ⟨r54, r52, _, rfl, h26', ?_, ?_⟩
      · rcases ho : pParam T a st2 with q | ⟨y, st'⟩
        · dsimp only; omega
        · have := hadv a _ _ _ ho
          dsimp only; omega
      · rw [bnd_assoc]
        exact heq
      · intro y st' e
        rcases ho : pParam T a st2 with q | ⟨y', st''⟩
        · rw [ho] at e; cases e
        · rw [ho] at e
          cases e
          have e1 := hr24 _ _ ho
          have e2 := hr25 _ _ ho
          have e3 := hlen4 _ _ ho
          subst e1
          refine ⟨by rw [e2], by simp, ?_, by simpa using e3.2.1⟩
          rw [e2]
          split <;> omega
    · intro J57 hJ57
      by_cases ha : a < 0
      · rw [if_neg (by simp only [decide_eq_true_eq]; show ¬ a ≥ 0; omega)]
        exact hJ57 w16 ⟨.ok ((), st2), h16.okv, by unfold pComma; rw [if_pos ha]⟩
      · rw [if_pos (by simp only [decide_eq_true_eq]; show a ≥ 0; omega)]
        refine mwant_spec h16 (by omega) fun r58 w17 h17 _ => ?_
        exact hJ57 w17 ⟨_, h17, by unfold pComma; rw [if_neg ha]; rfl⟩
theorem mprog_spec {K : Int → World → Prop} (h : PM T w0 s tb (.ok ((), 0, []) : PR Unit) L w) (hK : ∀ r w', PM T w0 s tb (pTree T) L w' → (∀ x st', pTree T = .ok (x, st') → r = x) → K r w') : S.parsem_st_program s w K := by
  unfold S.parsem_st_program
  unfold pTree at hK
  have hadv : ∀ x : Int, Adv T ((fun _ => pFunc T) x) := fun _ => adv_func
  have hmk := mk_func (T := T) h.tok.val
  have hinit : (bnd (.ok ((-1, -1), 0, []) : PR (Int × Int)) fun v s => row T 0 (fun _ => pFunc T) v s) = row T 0 (fun _ => pFunc T) (-1, -1) (0, []) := rfl
  generalize row T 0 (fun _ => pFunc T) (-1, -1) (0, []) = tg at *
  refine loopN (fun m v u => ∃ (a last : Int) (o3 : PR (Int × Int)), v = (a, last, ()) ∧ PM T w0 s tb o3 L u ∧
      (bnd o3 fun v s => row T 0 (fun _ => pFunc T) v s) = tg ∧ (∀ y st', o3 = .ok (y, st') → y = (a, last) ∧ m = T.length - st'.1 ∧ (a < 0 ↔ last < 0) ∧ last < st'.2.length)) T.length
    ⟨-1, -1, _, rfl, h.okv, hinit, fun y st' e => by cases e; exact ⟨rfl, rfl, by simp, by simp⟩⟩ ?_
  rintro m _ u ⟨a, last, o3, rfl, hu, heq, hv⟩ Q hQ
  dsimp only
  refine hu.err (fun e q he1 hne => ?_) (fun y st2 he1 => ?_)
  · subst he1
    rw [if_neg (by simpa using hne)]
    refine hK _ u (hu.errv.conv (by rw [← heq]; rfl)) fun x st' e' => ?_
    rw [← heq] at e'; cases e'
  subst he1
  rw [if_pos (by rfl)]
  obtain ⟨rfl, rfl, hfl, hll⟩ := hv _ _ rfl
  have hlt2 := hu.lt
  refine mkind_spec hu fun r30 w16 h16 hr30 => ?_
  have hr30 := hr30 _ _ rfl
  subst hr30
  simp only [bnd_ok] at heq
  by_cases k0 : knd T st2.1 = 0
  · rw [if_neg (by simp [k0])]
    rw [row_stop k0] at heq
    refine hK _ w16 (h16.okv.conv heq) fun x st' e' => ?_
    rw [← heq] at e'; cases e'; rfl
  rw [if_pos (by simpa using k0)]
  rw [row_step hadv (by omega) k0] at heq
  refine mfunc_spec h16.okv fun r5 w24 h24 hr24 => ?_
  have hlen4 : ∀ y st', pFunc T st2 = .ok (y, st') → last < st'.2.length ∧ y < st'.2.length ∧ 0 ≤ y := fun y st' e => by
    obtain ⟨a1, _⟩ := hmk _ _ _ e
    have := a1.lt
    have := a1.top
    omega
  refine mlink_spec h24 (fun y st' e => ⟨hfl, (hlen4 y st' e).1⟩) fun r54 w26 h26 hr25 => ?_
  have h26' : PM T w0 s tb (bnd (pFunc T st2) fun y s => .ok ((if a < 0 then y else a, y), pHang last y s)) L w26 := by
    rcases ho : pFunc T st2 with q | ⟨y, st'⟩
    · rw [ho] at h26; exact h26.errv
    · rw [ho] at h26
      have := hr24 _ _ ho
      subst this
      exact h26.okv
  refine hQ (match pFunc T st2 with | .ok (_, st) => T.length - st.1 | .error _ => 0) _ w26 ?_ ⟨r54, r5, _, rfl, h26', ?_, ?_⟩
  · rcases ho : pFunc T st2 with q | ⟨y, st'⟩
    · dsimp only; omega
    · have := adv_func _ _ _ ho
      dsimp only; omega
  · rw [bnd_assoc]
    exact heq
  · intro y st' e
    rcases ho : pFunc T st2 with q | ⟨y', st''⟩
    · rw [ho] at e; cases e
    · rw [ho] at e
      cases e
      have e1 := hr24 _ _ ho
      have e2 := hr25 _ _ ho
      have e3 := hlen4 _ _ ho
      subst e1
      refine ⟨by rw [e2], by simp, ?_, by simpa using e3.2.1⟩
      rw [e2]
      split <;> omega
end Go.Proofs.Qxb6500562aGreat
