/-
  The model's parser: statements, functions.
-/
import Derived.Test.Qxb6500562aGreatParQ
namespace Go.Proofs.Qxb6500562aGreat
open Go.Den Go.Zip
set_option linter.unusedVariables false
set_option linter.unusedSimpArgs false
variable {α β : Type} {T : List Tok} {w0 w w' : World} {s tb p : Nat} {L : List (Nat × List Value)} {vs : List Value}

/-- The nodes, read. -/
theorem PM.nodes {x : α} {st : PS} (h : PM T w0 s tb (.ok (x, st) : PR α) L w) : ∃ sl, Blk w s (mRec tb T.length st.1 sl 0 0) ∧ ∀ (r : Int) (k : Nat) (m : Int) (K : Int → Prop), 0 ≤ r → r < st.2.length → k < 8 → (ndV (ndAt st.2 r))[k]? = some (.int .i64 m) → K m → Ix sl.a sl.l r fun b o => LdI .i64 w ⟨b, o + Int.toNat r * 8 + k, none⟩ K := by
  obtain ⟨sl, _, _, a1, a2, a3, a4⟩ := h.ex
  refine ⟨sl, a3, fun r k m K h0 h1 hk hm hKm => ?_⟩
  obtain ⟨q, rfl⟩ : ∃ q : Nat, r = q := ⟨r.toNat, by omega⟩
  have hql : q < st.2.length := by omega
  have hl4 := a4.len
  rw [nds_len] at hl4
  rcases a4 with ⟨e1, e2⟩ | ⟨g, c1, c2, c3, junk, c4, c5⟩
  · have := congrArg List.length e2
    rw [nds_len] at this
    simp at this
    omega
  refine ix c1 (by omega) (by omega) ?_
  refine ldI c4 ?_ hKm
  rw [Nat.zero_add, Int.toNat_natCast, List.getElem?_append_left (by rw [nds_len]; omega), ndCell hql hk]
  exact hm
/-- A statement, where nothing has failed. -/
def SrvS (T : List Tok) (w0 : World) (s tb : Nat) (R : R1) (l : Nat) (f : PS → PR Int) : Prop := ∀ L st w K, PM T w0 s tb (.ok ((), st) : PR Unit) L w → (∀ r w', PM T w0 s tb (f st) L w' → (∀ x st', f st = .ok (x, st') → r = x) → K r w') → R s (8 - (l : Int)) w K
theorem mstmt_body {R1b R2s : R1} {l : Nat} {st : PS} {K : Int → World → Prop} (hl : l ≤ 8)
    (hb : Srv T w0 s tb R1b l (pBlk T l)) (h : PM T w0 s tb (.ok ((), st) : PR Unit) L w) (hK : ∀ r w', PM T w0 s tb (pStmt T l (pBlk T l) st) L w' → (∀ x st', pStmt T l (pBlk T l) st = .ok (x, st') → r = x) → K r w') : B.parsem_st_stmt R1b R2s s (8 - (l : Int)) w K := by
  have he := mexpr_srv T w0 s tb hl
  unfold B.parsem_st_stmt
  refine mat_spec h fun r1 w1 h hr1 => ?_
  have hr1 := hr1 _ _ rfl
  subst hr1
  refine mnode_spec fun w2 f2 => ?_
  refine (h.ext f2).node (n := nd0 0 (psn T st.1)) fun p10 w3 h3 => ?_
  refine mkind_spec h3 fun r11 w4 h4 hr11 => ?_
  have hr11 := hr11 _ _ rfl
  subst hr11
  generalize htg : pStmt T l (pBlk T l) st = tg at *
  refine join_W (fun u => ∃ (n : Nd) (o' : PR Unit), PM T w0 s tb o' ((p10, ndV n) :: L) u ∧ (bnd o' fun _ s => pAdd n s) = tg) ?_ ?_
  · rintro u ⟨n, o', hu, htg⟩
    refine ldNode hu.loc ?_
    refine madd_spec hu fun r w9 h9 hr9 => ?_
    rw [htg] at h9 hr9
    exact hK r w9 h9.tail hr9
  intro J21 hJ21
  by_cases k4 : knd T st.1 = 4
  · rw [if_pos (by simp [k4])]
    refine mnext_spec h4 (fun x st' e => by cases e; omega) fun w5 h5 => ?_
    refine h5.st (by simp [ndV]) fun w6 h6 => ?_
    refine mname_spec h6 fun t r w7 h7 hr7 => ?_
    obtain ⟨rfl, rfl⟩ := hr7 _ _ rfl
    refine h7.st (by simp [ndV]) fun w8 h8 => ?_
    refine h8.st (by simp [ndV]) fun w9 h9 => ?_
    refine mtyp_spec h9 fun r24 w10 h10 hr10 => ?_
    refine h10.st (by simp [ndV]) fun w11 h11 => ?_
    refine mwant_spec h11 (by omega) fun r25 w12 h12 _ => ?_
    refine he.app h12 fun r26 w13 h13 hr13 => ?_
    refine h13.st (by simp [ndV]) fun w14 h14 => ?_
    refine mwant_spec h14 (by omega) fun r27 w15 h15 _ => ?_
    refine hJ21 w15 ⟨{ nd0 3 (psn T (st.1 + 1)) with a := r26, val := r24, name := txt T (st.1 + 1) }, _, h15, ?_⟩
    rw [← htg]
    unfold pStmt pClosed
    rw [if_pos k4]
    simp only [bnd_ok, bnd_assoc] at hr10 hr13 ⊢
    refine bnd_congr fun _ s1 e1 => bnd_congr fun t s2 e2 => bnd_congr fun _ s3 e3 => bnd_congr fun x s4 e4 => bnd_congr fun _ s5 e5 => ?_
    rw [hr10 t s2 (by rw [e1]; exact e2), hr13 x s4 (by rw [e1]; simp only [bnd_ok]; rw [e2]; simp only [bnd_ok]; rw [e3]; exact e4)]
  rw [if_neg (by simpa using k4)]
  by_cases k5 : knd T st.1 = 5
  · rw [if_pos (by simp [k5])]
    refine mnext_spec h4 (fun x st' e => by cases e; omega) fun w5 h5 => ?_
    refine h5.st (by simp [ndV]) fun w6 h6 => ?_
    refine he.app h6 fun r28 w7 h7 hr7 => ?_
    refine h7.st (by simp [ndV]) fun w8 h8 => ?_
    refine hb.app h8 fun r29 w9 h9 hr9 => ?_
    refine h9.st (by simp [ndV]) fun w10 h10 => ?_
    simp only [bnd_ok] at hr7 hr9 h10
    have etg : tg = bnd (bnd (bnd (pE T l (st.1 + 1, st.2)) fun _ st => pBlk T l st) fun _ s => pElse T (pBlk T l) s) fun z s => pAdd { nd0 5 (psn T st.1) with a := r28, b := r29, c := z } s := by
      rw [← htg]
      unfold pStmt
      rw [if_neg k4, if_pos k5]
      simp only [bnd_assoc]
      refine bnd_congr fun x s1 e1 => bnd_congr fun y s2 e2 => bnd_congr fun z s3 e3 => ?_
      rw [hr7 _ _ e1, hr9 y s2 (by rw [e1]; exact e2)]
    generalize (bnd (pE T l (st.1 + 1, st.2)) fun _ st => pBlk T l st) = o2 at *
    refine h10.err (fun e q heq hne => ?_) (fun y st2 heq => ?_)
    · subst heq
      rw [if_neg (by simpa using hne)]
      exact hJ21 w10 ⟨{ nd0 5 (psn T st.1) with a := r28, b := r29 }, .error (e, q), h10.errv, by rw [etg]; rfl⟩
    · subst heq
      rw [if_pos (by rfl)]
      refine mkind_spec h10 fun r31 w11 h11 hr31 => ?_
      have hr31 := hr31 _ _ rfl
      subst hr31
      by_cases k6 : knd T st2.1 = 6
      · rw [if_pos (by simp [k6])]
        refine mnext_spec h11 (fun x st' e => by cases e; omega) fun w12 h12 => ?_
        refine hb.app h12 fun r32 w13 h13 hr13 => ?_
        refine h13.st (by simp [ndV]) fun w14 h14 => ?_
        refine hJ21 w14 ⟨{ nd0 5 (psn T st.1) with a := r28, b := r29, c := r32 }, _, h14.val (f := fun _ => ()), ?_⟩
        rw [etg]
        simp only [bnd_ok, bnd_assoc] at hr13 ⊢
        unfold pElse
        rw [if_pos k6]
        refine bnd_congr fun x s1 e1 => ?_
        rw [hr13 _ _ e1]
      · rw [if_neg (by simpa using k6)]
        refine hJ21 w11 ⟨{ nd0 5 (psn T st.1) with a := r28, b := r29 }, .ok ((), st2), h11.okv, ?_⟩
        rw [etg]
        simp only [bnd_ok]
        unfold pElse
        rw [if_neg k6]; rfl
  rw [if_neg (by simpa using k5)]
  by_cases k7 : knd T st.1 = 7
  · rw [if_pos (by simp [k7])]
    refine mnext_spec h4 (fun x st' e => by cases e; omega) fun w5 h5 => ?_
    refine h5.st (by simp [ndV]) fun w6 h6 => ?_
    refine he.app h6 fun r28 w7 h7 hr7 => ?_
    refine h7.st (by simp [ndV]) fun w8 h8 => ?_
    refine hb.app h8 fun r29 w9 h9 hr9 => ?_
    refine h9.st (by simp [ndV]) fun w10 h10 => ?_
    refine hJ21 w10 ⟨{ nd0 6 (psn T st.1) with a := r28, b := r29 }, _, h10.val (f := fun _ => ()), ?_⟩
    rw [← htg]
    unfold pStmt
    rw [if_neg k4, if_neg k5, if_pos k7]
    simp only [bnd_ok, bnd_assoc] at hr7 hr9 ⊢
    refine bnd_congr fun x s1 e1 => bnd_congr fun y s2 e2 => ?_
    rw [hr7 _ _ e1, hr9 y s2 (by rw [e1]; exact e2)]
  rw [if_neg (by simpa using k7)]
  refine join_P (fun (j : Bool) u => u = w4 ∧ (j = true ↔ knd T st.1 = 8 ∨ knd T st.1 = 9)) ?_ ?_
  · rintro j u ⟨rfl, hj⟩
    by_cases k89 : knd T st.1 = 8 ∨ knd T st.1 = 9
    · rw [if_pos (hj.2 k89)]
      refine h4.st (by simp [ndV]) fun w5 h5 => ?_
      refine mkind_spec h5 fun r36 w6 h6 hr36 => ?_
      have hr36 := hr36 _ _ rfl
      subst hr36
      refine join_W (fun v => ∃ k, (knd T st.1 = 8 ∧ k = 7 ∨ knd T st.1 = 9 ∧ k = 8) ∧ PM T w0 s tb (.ok ((), st) : PR Unit) ((p10, ndV (nd0 k (psn T st.1))) :: L) v) ?_ ?_
      · rintro v ⟨k, hk, hv⟩
        refine mnext_spec hv (fun x st' e => by cases e; omega) fun w7 h7 => ?_
        refine he.app h7 fun r37 w8 h8 hr8 => ?_
        refine h8.st (by simp [ndV]) fun w9 h9 => ?_
        refine mwant_spec h9 (by omega) fun r38 w10 h10 _ => ?_
        refine hJ21 w10 ⟨{ nd0 k (psn T st.1) with a := r37 }, _, h10, ?_⟩
        rw [← htg]
        have : pStmt T l (pBlk T l) st = pClosed T l (nd0 k (psn T st.1)) (st.1 + 1, st.2) := by
          unfold pStmt
          rw [if_neg k4, if_neg k5, if_neg k7]
          rcases hk with ⟨h1, rfl⟩ | ⟨h1, rfl⟩
          · rw [if_pos h1]
          · rw [if_neg (by omega), if_pos h1]
        rw [this]
        unfold pClosed
        simp only [bnd_ok, bnd_assoc] at hr8 ⊢
        refine bnd_congr fun x s1 e1 => bnd_congr fun _ s2 e2 => ?_
        rw [hr8 _ _ e1]
      · intro J39 hJ39
        by_cases k9 : knd T st.1 = 9
        · rw [if_pos (by simp [k9])]
          refine h6.st (by simp [ndV]) fun w7 h7 => ?_
          exact hJ39 w7 ⟨8, .inr ⟨k9, rfl⟩, h7⟩
        · rw [if_neg (by simpa using k9)]
          exact hJ39 w6 ⟨7, .inl ⟨by omega, rfl⟩, h6⟩
    · rw [if_neg (fun e => k89 (hj.1 e))]
      have etg : tg = pPlain T l st := by
        rw [← htg]
        unfold pStmt
        rw [if_neg k4, if_neg k5, if_neg k7, if_neg (by omega), if_neg (by omega)]
      refine h4.st (by simp [ndV]) fun w5 h5 => ?_
      refine he.app h5 fun r40 w6 h6 hr6 => ?_
      refine h6.st (by simp [ndV]) fun w7 h7 => ?_
      simp only [bnd_ok] at h7 hr6
      unfold pPlain at etg
      have hmk := mk_E h4.tok.val l st
      generalize pE T l st = o1 at *
      refine h7.err (fun e q heq hne => ?_) (fun y st2 heq => ?_)
      · subst heq
        rw [if_pos (by simpa using hne)]
        refine hK _ w7 (h7.tail.errv.conv (by rw [etg]; rfl)) fun x st' e' => ?_
        rw [etg] at e'; cases e'
      · subst heq
        have hx := hr6 _ _ rfl
        subst hx
        rw [if_neg (by simp)]
        obtain ⟨ep, _⟩ := hmk _ _ rfl
        simp only [bnd_ok] at etg
        have h1 := ep.top
        have h2 := ep.lt
        refine drew_ ?_
        have h8 := h7.drew
        generalize w7.drew = w8 at *
        obtain ⟨sl, a3, hix⟩ := h8.nodes
        refine ldS a3 rfl (ldI h8.loc rfl (hix r40 6 _ _ (by omega) (by omega) (by omega) rfl ?_))
        refine h8.st (by simp [ndV]) fun w9 h9 => ?_
        refine drew_ ?_
        have h10 := h9.drew
        generalize w9.drew = w10 at *
        obtain ⟨sl, a3, hix⟩ := h10.nodes
        refine ldS a3 rfl (ldI h10.loc rfl (hix r40 0 _ _ (by omega) (by omega) (by omega) rfl ?_))
        have h10 : PM T w0 s tb (.ok (r40, st2) : PR Int) ((p10, ndV { nd0 9 (ndAt st2.2 r40).pos with a := r40 }) :: L) w10 := h10
        have semi : ∀ u, ¬ (knd T st2.1 = 25 ∧ ((ndAt st2.2 r40).kind = 12 ∨ (ndAt st2.2 r40).kind = 14)) → PM T w0 s tb (.ok (r40, st2) : PR Int) ((p10, ndV { nd0 9 (ndAt st2.2 r40).pos with a := r40 }) :: L) u → S.parsem_st_want s 24 u (fun r57 w => J21 w) := by
          intro u hc hu
          refine mwant_spec hu (by omega) fun r57 w12 h12 _ => ?_
          refine hJ21 w12 ⟨_, _, h12, ?_⟩
          rw [etg, if_neg hc]; rfl
        refine join_W (fun u => PM T w0 s tb (.ok (r40, st2) : PR Int) ((p10, ndV { nd0 9 (ndAt st2.2 r40).pos with a := r40 }) :: L) u ∧ knd T st2.1 = 25 ∧ ((ndAt st2.2 r40).kind = 12 ∨ (ndAt st2.2 r40).kind = 14)) ?_ ?_
        · rintro u ⟨hu, hc⟩
          rw [if_pos hc] at etg
          refine hu.st (by simp [ndV]) fun w11 h11 => ?_
          refine mwant_spec h11 (by omega) fun r52 w12 h12 hr52 => ?_
          have hr52 := hr52 _ _ rfl
          subst hr52
          refine h12.st (by simp [ndV]) fun w13 h13 => ?_
          refine he.app h13 fun r53 w14 h14 hr14 => ?_
          refine h14.st (by simp [ndV]) fun w15 h15 => ?_
          refine mwant_spec h15 (by omega) fun r54 w16 h16 _ => ?_
          refine hJ21 w16 ⟨{ nd0 4 (psn T st2.1) with a := r40, b := r53 }, _, h16, ?_⟩
          rw [etg]
          have ht : pTake T 25 st2 = .ok ((), st2.1 + 1, st2.2) := by unfold pTake; rw [if_pos hc.1]
          simp only [bnd_ok, ht, bnd_assoc] at hr14 ⊢
          refine bnd_congr fun x s1 e1 => bnd_congr fun _ s2 e2 => ?_
          rw [hr14 _ _ e1]
        · intro J55 hJ55
          refine mkind_spec h10 fun r56 w11 h11 hr56 => ?_
          have hr56 := hr56 _ _ rfl
          subst hr56
          by_cases k25 : knd T st2.1 = 25
          · rw [if_pos (by simp [k25])]
            by_cases k12 : (ndAt st2.2 r40).kind = 12
            · rw [if_pos (by simp [k12])]
              exact hJ55 w11 ⟨h11, k25, .inl k12⟩
            · rw [if_neg (by simpa using k12)]
              by_cases k14 : (ndAt st2.2 r40).kind = 14
              · rw [if_pos (by simp [k14])]
                exact hJ55 w11 ⟨h11, k25, .inr k14⟩
              · rw [if_neg (by simpa using k14)]
                exact semi w11 (by omega) h11
          · rw [if_neg (by simpa using k25)]
            exact semi w11 (by omega) h11
  · intro J59 hJ59
    by_cases k8 : knd T st.1 = 8
    · rw [if_pos (by simp [k8])]
      exact hJ59 _ w4 ⟨rfl, by simp [k8]⟩
    · rw [if_neg (by simpa using k8)]
      exact hJ59 _ w4 ⟨rfl, by simp [k8]⟩
end Go.Proofs.Qxb6500562aGreat
