/-
  The real parser: statements, blocks, functions, programs.
-/
import Derived.Test.Qxb6500562aGreatPaRC
namespace Go.Proofs.Qxb6500562aGreat
open Go.Den Go.Zip
set_option linter.unusedVariables false
set_option linter.unusedSimpArgs false
variable {α β : Type} {T : List Tok} {w0 w w' : World} {P : Nat → Prop} {p tb ar lx q : Nat} {L : List (Nat × List Value)} {vs : List Value}

theorem rclosed {l : Nat} {n : Nd} {st : PS} {K : Int → World → Prop} (hl : l ≤ 8) (h : PQ T w0 P p tb ar lx (.ok ((), st) : PR Unit) L w)
    (hK : ∀ r w', PQ T w0 P p tb ar lx (pClosed T l n st) L w' → Rv (pClosed T l n st) r → K r w') : S.parse_Parser_closed p n.kind n.a n.b n.c n.next n.val n.pos n.name (l : Int) w K := by
  unfold S.parse_Parser_closed
  refine newB fun w1 b1 f1 s1 => ?_
  have h1 := h.new f1 (Nat.le_refl _) (cs := ndV n) b1
  generalize w.heap.size = q at *
  refine rbin_srv T w0 P p tb ar lx hl _ st w1 _ h1 fun r2 w2 h2 hr2 => ?_
  refine h2.st1 (by simp [ndV]) fun w3 h3 => ?_
  have e : pClosed T l n st = bnd (climb T (pU T l) 1 st) fun x s => bnd (pTake T 24 s) fun _ s => pAdd { n with a := x } s := rfl
  rcases ho : climb T (pU T l) 1 st with e1 | ⟨x, s⟩
  · rw [ho] at h3 e
    refine rtake_err h3 ?_
    rw [if_pos (by simp)]
    exact hK _ w3 (by rw [e]; exact h3.tail) (by rw [e]; rfl)
  · rw [ho] at h3 e hr2
    have hr2 : r2 = x := hr2
    subst hr2
    simp only [bnd_ok] at e
    refine rtake h3 (by omega) (fun w4 e4 h4 => ?_) (fun w4 q' e4 h4 => ?_)
    · rw [if_neg (by simp)]
      rw [e4] at e
      refine ldNode (n := { n with a := r2 }) h4.loc ?_
      refine radd h4.tail fun r w5 h5 hr5 => ?_
      exact hK r w5 (by rw [e]; exact h5) (by rw [e]; exact hr5)
    · rw [if_pos (by simp)]
      rw [e4] at e
      exact hK _ w4 (by rw [e]; exact h4.tail) (by rw [e]; rfl)
/-- The text of the token at hand. -/
theorem rtext {x : α} {st : PS} {K : ByteArray → Prop} (h : PQ T w0 P p tb ar lx (.ok (x, st) : PR α) L w) (hK : K (txt T st.1)) :
    LdS w ⟨p, 1, none⟩ fun toks => LdI .i64 w ⟨p, 2, none⟩ fun cur => Ix toks.a toks.l cur fun b o => LdStr w ⟨b, o + Int.toNat cur * 4 + 3, none⟩ K := by
  have hlt := h.lt
  refine ldS h.st.2.2.1 rfl (ldI h.st.2.2.1 rfl (ix rfl (by omega) (by dsimp only; omega) ?_))
  exact ldStr h.toks (m := txt T st.1) ((tokCell (k := 3) hlt.1 (by omega)).trans rfl) hK
theorem rvar {l : Nat} {st : PS} {K : Int → World → Prop} (hl : l ≤ 8) (h : PQ T w0 P p tb ar lx (.ok ((), st) : PR Unit) L w) {tg : PR Int}
    (htg : tg = bnd (pTake T 1 st) fun _ s => bnd (pTyp T s) fun t s => bnd (pTake T 25 s) fun _ s => pClosed T l { nd0 3 (psn T st.1) with val := t, name := txt T st.1 } s)
    (hK : ∀ r w', PQ T w0 P p tb ar lx tg L w' → Rv tg r → K r w') : S.parse_Parser_varDecl p (l : Int) w K := by
  unfold S.parse_Parser_varDecl
  refine rat h fun w1 h1 => ?_
  refine fresh_spec fun w2 f2 => ?_
  refine (h1.ext f2).node (n := nd0 3 (psn T st.1)) fun q w3 h3 => ?_
  refine drew_ ?_
  have h3 := h3.drew
  generalize w3.drew = w3 at *
  refine rtext h3 ?_
  refine h3.st1 (by simp [ndV]) fun w4 h4 => ?_
  refine rtake h4 (by omega) (fun w5 e5 h5 => ?_) (fun w5 q' e5 h5 => ?_)
  · rw [if_neg (by simp)]
    rw [e5] at htg
    simp only [bnd_ok] at htg
    refine rtyp h5 fun r17 w6 h6 hr6 => ?_
    refine h6.st1 (by simp [ndV]) fun w7 h7 => ?_
    rcases ho : pTyp T (st.1 + 1, st.2) with e1 | ⟨t, s⟩
    · rw [ho] at h7 htg
      refine rtake_err h7 ?_
      rw [if_pos (by simp)]
      exact hK _ w7 (by rw [htg]; exact h7.tail) (by rw [htg]; rfl)
    · rw [ho] at h7 htg hr6
      have hr6 : r17 = t := hr6
      subst hr6
      simp only [bnd_ok] at htg
      refine rtake h7 (by omega) (fun w8 e8 h8 => ?_) (fun w8 q' e8 h8 => ?_)
      · rw [if_neg (by simp)]
        rw [e8] at htg
        simp only [bnd_ok] at htg
        refine ldNode (n := { nd0 3 (psn T st.1) with val := r17, name := txt T st.1 }) h8.loc ?_
        refine rclosed hl h8.tail fun r w9 h9 hr9 => ?_
        exact hK r w9 (by rw [htg]; exact h9) (by rw [htg]; exact hr9)
      · rw [if_pos (by simp)]
        rw [e8] at htg
        exact hK _ w8 (by rw [htg]; exact h8.tail) (by rw [htg]; rfl)
  · rw [if_pos (by simp)]
    rw [e5] at htg
    exact hK _ w5 (by rw [htg]; exact h5.tail) (by rw [htg]; rfl)
/-- A node of the arena, read. -/
theorem PQ.nodes {x : α} {st : PS} (h : PQ T w0 P p tb ar lx (.ok (x, st) : PR α) L w) {r : Int} {k : Nat} {m : Int} {K : Int → Prop} (h0 : 0 ≤ r) (h1 : r < st.2.length) (hk : k < 8) (hm : (ndV (ndAt st.2 r))[k]? = some (.int .i64 m)) (hK : K m) :
    LdS w ⟨p, 3, none⟩ fun a => Ix a.a a.l r fun b o => LdI .i64 w ⟨b, o + Int.toNat r * 8 + k, none⟩ K := by
  obtain ⟨a1, a2, a3, junk, c1, c2⟩ := h.st
  refine ldS a3 rfl ?_
  obtain ⟨q, rfl⟩ : ∃ q : Nat, r = q := ⟨r.toNat, by omega⟩
  refine ix rfl (by omega) (by dsimp only; omega) ?_
  refine ldI c1 ?_ hK
  rw [Nat.zero_add, Int.toNat_natCast, List.getElem?_append_left (by rw [nds_len]; omega), ndCell (by omega) hk]
  exact hm
theorem rplain {l : Nat} {st : PS} {K : Int → World → Prop} (hl : l ≤ 8) (h : PQ T w0 P p tb ar lx (.ok ((), st) : PR Unit) L w)
    (hK : ∀ r w', PQ T w0 P p tb ar lx (pPlain T l st) L w' → Rv (pPlain T l st) r → K r w') : S.parse_Parser_plain p (l : Int) w K := by
  unfold S.parse_Parser_plain
  refine rbin_srv T w0 P p tb ar lx hl _ st w _ h fun r1 w1 h1 hr1 => ?_
  have etg : pPlain T l st = bnd (climb T (pU T l) 1 st) fun x s => if knd T s.1 = 25 ∧ ((ndAt s.2 x).kind = 12 ∨ (ndAt s.2 x).kind = 14) then
      bnd (pE T l (s.1 + 1, s.2)) fun y s' => bnd (pTake T 24 s') fun _ s' => pAdd { nd0 4 (psn T s.1) with a := x, b := y } s'
    else bnd (pTake T 24 s) fun _ s' => pAdd { nd0 9 (ndAt s.2 x).pos with a := x } s' := rfl
  have hmk := mk_E h.tok.val l st
  have hpe : pE T l st = climb T (pU T l) 1 st := rfl
  rw [hpe] at hmk
  generalize pPlain T l st = tg at *
  rcases ho : climb T (pU T l) 1 st with e1 | ⟨x, s⟩
  · rw [ho] at h1 etg
    refine h1.flag (fun _ _ => ?_) (fun _ _ h => by cases h)
    rw [if_pos rfl]
    exact hK _ w1 (by rw [etg]; exact h1) (by rw [etg]; rfl)
  rw [ho] at h1 etg hr1
  have hr1 : r1 = x := hr1
  subst hr1
  obtain ⟨ep, _⟩ := hmk _ _ ho
  have t1 := ep.top
  have t2 := ep.lt
  simp only [bnd_ok] at etg
  refine h1.flag (fun _ h => by cases h) (fun _ _ _ => ?_)
  rw [if_neg (by simp)]
  refine h1.nodes (k := 6) (by omega) (by omega) (by omega) rfl ?_
  refine fresh_spec fun w2 f2 => ?_
  refine (h1.ext f2).node (n := nd0 9 (ndAt s.2 r1).pos) fun q w3 h3 => ?_
  refine h3.st1 (by simp [ndV]) fun w4 h4 => ?_
  have h4 : PQ T w0 P p tb ar lx (.ok (r1, s) : PR Int) ((q, ndV { nd0 9 (ndAt s.2 r1).pos with a := r1 }) :: L) w4 := h4
  refine join_W (fun u => ∃ (n : Nd) (o : PR Int), PQ T w0 P p tb ar lx o ((q, ndV n) :: L) u ∧ tg = bnd o fun _ s => bnd (pTake T 24 s) fun _ s => pAdd n s) ?_ ?_
  · rintro u ⟨n, o, hu, rfl⟩
    rcases o with e1 | ⟨y, s2⟩
    · refine rtake_err hu ?_
      rw [if_pos (by simp)]
      exact hK _ u hu.tail rfl
    · simp only [bnd_ok] at hK
      refine rtake hu (by omega) (fun w8 e8 h8 => ?_) (fun w8 q' e8 h8 => ?_)
      · rw [if_neg (by simp)]
        rw [e8] at hK
        simp only [bnd_ok] at hK
        refine ldNode h8.loc ?_
        refine radd h8.tail fun r w9 h9 hr9 => ?_
        exact hK r w9 h9 hr9
      · rw [if_pos (by simp)]
        rw [e8] at hK
        exact hK _ w8 h8.tail rfl
  · intro J26 hJ26
    refine join_W (fun u => PQ T w0 P p tb ar lx (.ok (r1, s) : PR Int) ((q, ndV { nd0 9 (ndAt s.2 r1).pos with a := r1 }) :: L) u ∧ knd T s.1 = 25 ∧ ((ndAt s.2 r1).kind = 12 ∨ (ndAt s.2 r1).kind = 14)) ?_ ?_
    · rintro u ⟨hu, hc⟩
      rw [if_pos hc] at etg
      refine rat hu fun w5 h5 => ?_
      refine h5.st1 (by simp [ndV]) fun w6 h6 => ?_
      refine h6.st1 (by simp [ndV]) fun w7 h7 => ?_
      refine rstep h7 (by omega) fun w8 h8 => ?_
      refine rbin_srv T w0 P p tb ar lx hl _ (s.1 + 1, s.2) w8 _ h8.okv fun r28 w9 h9 hr9 => ?_
      refine h9.st1 (by simp [ndV]) fun w10 h10 => ?_
      refine hJ26 w10 ⟨{ nd0 4 (psn T s.1) with a := r1, b := r28 }, _, h10, ?_⟩
      rw [etg]
      refine bnd_congr fun y s2 e2 => ?_
      have e2' : climb T (pU T l) 1 (s.1 + 1, s.2) = .ok (y, s2) := e2
      rw [e2'] at hr9
      have hr9 : r28 = y := hr9
      rw [hr9]
    · intro J29 hJ29
      have semi : ∀ u, ¬ (knd T s.1 = 25 ∧ ((ndAt s.2 r1).kind = 12 ∨ (ndAt s.2 r1).kind = 14)) → PQ T w0 P p tb ar lx (.ok (r1, s) : PR Int) ((q, ndV { nd0 9 (ndAt s.2 r1).pos with a := r1 }) :: L) u → J26 u := fun u hc hu => by
        rw [if_neg hc] at etg
        exact hJ26 u ⟨_, _, hu, etg⟩
      refine rkind h4 fun w5 h5 => ?_
      refine if_q (fun k25 => ?_) fun k25 => semi w5 (by omega) h5
      refine h5.nodes (k := 0) (by omega) (by omega) (by omega) rfl ?_
      refine if_q (fun k12 => hJ29 w5 ⟨h5, k25, .inl k12⟩) fun k12 => ?_
      refine h5.nodes (k := 0) (by omega) (by omega) (by omega) rfl ?_
      exact if_q (fun k14 => hJ29 w5 ⟨h5, k25, .inr k14⟩) fun k14 => semi w5 (by omega) h5
theorem rstmt_body {Rk Rs : R1} {l : Nat} {st : PS} {K : Int → World → Prop} (hl : l ≤ 8) (hb : Sg T w0 P p tb ar lx Rk l (pBlk T l)) (h : PQ T w0 P p tb ar lx (.ok ((), st) : PR Unit) L w)
    (hK : ∀ r w', PQ T w0 P p tb ar lx (pStmt T l (pBlk T l) st) L w' → Rv (pStmt T l (pBlk T l) st) r → K r w') : B.parse_Parser_stmt Rk Rs p (l : Int) w K := by
  unfold B.parse_Parser_stmt
  refine rat h fun w1 h1 => ?_
  refine rkind h1 fun w2 h2 => ?_
  refine if_q (fun k4 => ?_) fun k4 => ?_
  · refine rstep h2 (by omega) fun w3 h3 => ?_
    refine rvar hl h3 (tg := pStmt T l (pBlk T l) st) ?_ hK
    unfold pStmt; rw [if_pos k4]
  refine if_q (fun k5 => ?_) fun k5 => ?_
  · have etg : pStmt T l (pBlk T l) st = bnd (climb T (pU T l) 1 (st.1 + 1, st.2)) fun x s => bnd (pBlk T l s) fun y s => bnd (pElse T (pBlk T l) s) fun z s => pAdd { nd0 5 (psn T st.1) with a := x, b := y, c := z } s := by
      unfold pStmt; rw [if_neg k4, if_pos k5]; rfl
    generalize pStmt T l (pBlk T l) st = tg at *
    refine rstep h2 (by omega) fun w3 h3 => ?_
    refine fresh_spec fun w4 f4 => ?_
    refine (h3.ext f4).node (n := nd0 5 (psn T st.1)) fun q w5 h5 => ?_
    refine rbin_srv T w0 P p tb ar lx hl _ _ w5 _ h5 fun r13 w6 h6 hr6 => ?_
    refine h6.st1 (by simp [ndV]) fun w7 h7 => ?_
    have fin : ∀ (u : World) (n : Nd) (o : PR Int), PQ T w0 P p tb ar lx o ((q, ndV n) :: L) u → tg = (bnd o fun _ s => pAdd n s) → (LdI .i64 u ⟨q, 0, none⟩ fun Kind_15 =>
        LdI .i64 u ⟨q, 1, none⟩ fun A_16 =>
        LdI .i64 u ⟨q, 2, none⟩ fun B_17 =>
        LdI .i64 u ⟨q, 3, none⟩ fun C_18 =>
        LdI .i64 u ⟨q, 4, none⟩ fun Next_19 =>
        LdI .i64 u ⟨q, 5, none⟩ fun Val_20 =>
        LdI .i64 u ⟨q, 6, none⟩ fun Pos_21 =>
        LdStr u ⟨q, 7, none⟩ fun Name_22 =>
        S.parse_Parser_add p Kind_15 A_16 B_17 C_18 Next_19 Val_20 Pos_21 Name_22 u (fun r23 w =>
        K r23 w)) := by
      intro u n o hu e
      refine ldNode hu.loc ?_
      rcases o with e1 | ⟨x, s⟩
      · refine radd_err hu.tail fun w' h' => ?_
        exact hK _ w' (by rw [e]; exact h') (by rw [e]; rfl)
      · refine radd hu.tail fun r w' h' hr' => ?_
        exact hK _ w' (by rw [e]; exact h') (by rw [e]; exact hr')
    have badblk : ∀ (u : World) (e1 : Int × Int), tg = .error e1 → PQ T w0 P p tb ar lx (.error e1 : PR Int) ((q, ndV { nd0 5 (psn T st.1) with a := r13 }) :: L) u → Rk p (l : Int) u (fun r14 w =>
      St1 w ⟨q, 2, none⟩ (.int .i64 r14) fun w =>
      Join (fun (w : World) =>
        LdI .i64 w ⟨q, 0, none⟩ fun Kind_15 =>
        LdI .i64 w ⟨q, 1, none⟩ fun A_16 =>
        LdI .i64 w ⟨q, 2, none⟩ fun B_17 =>
        LdI .i64 w ⟨q, 3, none⟩ fun C_18 =>
        LdI .i64 w ⟨q, 4, none⟩ fun Next_19 =>
        LdI .i64 w ⟨q, 5, none⟩ fun Val_20 =>
        LdI .i64 w ⟨q, 6, none⟩ fun Pos_21 =>
        LdStr w ⟨q, 7, none⟩ fun Name_22 =>
        S.parse_Parser_add p Kind_15 A_16 B_17 C_18 Next_19 Val_20 Pos_21 Name_22 w (fun r23 w =>
        K r23 w)) fun J24 =>
      LdB w ⟨p, 5, none⟩ fun failed_25 =>
      if (!failed_25) = true then
        S.parse_Parser_kind p w (fun r26 w =>
        if (r26 == 6) = true then
          S.parse_Parser_step p w (fun w =>
          Rk p (l : Int) w (fun r27 w =>
          St1 w ⟨q, 3, none⟩ (.int .i64 r27) fun w =>
          J24 w))
        else
          J24 w)
      else
        J24 w) := by
      intro u e1 e hu
      refine hb.2 _ e1 u _ hu.errv fun w8 h8 => ?_
      refine h8.st1 (by simp [ndV]) fun w9 h9 => ?_
      refine join_ ?_
      refine h9.flag (fun _ _ => ?_) (fun _ _ h => by cases h)
      rw [if_neg (by simp)]
      exact fin w9 _ (.error e1) h9 e
    rcases ho : climb T (pU T l) 1 (st.1 + 1, st.2) with e1 | ⟨x, s⟩
    · rw [ho] at h7 etg
      exact badblk w7 e1 etg h7
    · rw [ho] at h7 etg hr6
      have hr6 : r13 = x := hr6
      subst hr6
      simp only [bnd_ok] at etg
      refine hb.1 _ s w7 _ h7.okv fun r14 w8 h8 hr8 => ?_
      refine h8.st1 (by simp [ndV]) fun w9 h9 => ?_
      refine join_ ?_
      rcases ho2 : pBlk T l s with e1 | ⟨y, s2⟩
      · rw [ho2] at h9 etg
        refine h9.flag (fun _ _ => ?_) (fun _ _ h => by cases h)
        rw [if_neg (by simp)]
        exact fin w9 { nd0 5 (psn T st.1) with a := r13, b := r14 } (.error e1) h9 etg
      · rw [ho2] at h9 etg hr8
        have hr8 : r14 = y := hr8
        subst hr8
        simp only [bnd_ok] at etg
        refine h9.flag (fun _ h => by cases h) (fun _ _ _ => ?_)
        rw [if_pos (by rfl)]
        refine rkind h9 fun w10 h10 => ?_
        refine if_q (fun k6 => ?_) fun k6 => ?_
        · have ee : pElse T (pBlk T l) s2 = pBlk T l (s2.1 + 1, s2.2) := by unfold pElse; rw [if_pos k6]
          rw [ee] at etg
          refine rstep h10 (by omega) fun w11 h11 => ?_
          refine hb.1 _ (s2.1 + 1, s2.2) w11 _ h11.okv fun r27 w12 h12 hr12 => ?_
          refine h12.st1 (by simp [ndV]) fun w13 h13 => ?_
          refine fin w13 { nd0 5 (psn T st.1) with a := r13, b := r14, c := r27 } _ h13 ?_
          rw [etg]
          refine bnd_congr fun z s3 e3 => ?_
          rw [e3] at hr12
          have hr12 : r27 = z := hr12
          rw [hr12]
        · have ee : pElse T (pBlk T l) s2 = .ok (-1, s2) := by unfold pElse; rw [if_neg k6]
          rw [ee] at etg
          exact fin w10 { nd0 5 (psn T st.1) with a := r13, b := r14 } (.ok (0, s2)) h10.okv etg
  refine if_q (fun k7 => ?_) fun k7 => ?_
  · have etg : pStmt T l (pBlk T l) st = bnd (climb T (pU T l) 1 (st.1 + 1, st.2)) fun x s => bnd (pBlk T l s) fun y s => pAdd { nd0 6 (psn T st.1) with a := x, b := y } s := by
      unfold pStmt; rw [if_neg k4, if_neg k5, if_pos k7]; rfl
    generalize pStmt T l (pBlk T l) st = tg at *
    refine rstep h2 (by omega) fun w3 h3 => ?_
    refine fresh_spec fun w4 f4 => ?_
    refine (h3.ext f4).node (n := nd0 6 (psn T st.1)) fun q w5 h5 => ?_
    refine rbin_srv T w0 P p tb ar lx hl _ _ w5 _ h5 fun r13 w6 h6 hr6 => ?_
    refine h6.st1 (by simp [ndV]) fun w7 h7 => ?_
    rcases ho : climb T (pU T l) 1 (st.1 + 1, st.2) with e1 | ⟨x, s⟩
    · rw [ho] at h7 etg
      refine hb.2 _ e1 w7 _ h7.errv fun w8 h8 => ?_
      refine h8.st1 (by simp [ndV]) fun w9 h9 => ?_
      refine ldNode (n := { nd0 6 (psn T st.1) with a := r13, b := -1 }) h9.loc ?_
      refine radd_err h9.tail fun w' h' => ?_
      exact hK _ w' (by rw [etg]; exact h') (by rw [etg]; rfl)
    · rw [ho] at h7 etg hr6
      have hr6 : r13 = x := hr6
      subst hr6
      simp only [bnd_ok] at etg
      refine hb.1 _ s w7 _ h7.okv fun r14 w8 h8 hr8 => ?_
      refine h8.st1 (by simp [ndV]) fun w9 h9 => ?_
      refine ldNode (n := { nd0 6 (psn T st.1) with a := r13, b := r14 }) h9.loc ?_
      rcases ho2 : pBlk T l s with e1 | ⟨y, s2⟩
      · rw [ho2] at h9 etg
        refine radd_err h9.tail fun w' h' => ?_
        exact hK _ w' (by rw [etg]; exact h') (by rw [etg]; rfl)
      · rw [ho2] at h9 etg hr8
        have hr8 : r14 = y := hr8
        subst hr8
        refine radd h9.tail fun r w' h' hr' => ?_
        exact hK _ w' (by rw [etg]; exact h') (by rw [etg]; exact hr')
  have clo : ∀ k : Int, pStmt T l (pBlk T l) st = pClosed T l (nd0 k (psn T st.1)) (st.1 + 1, st.2) → knd T st.1 ≠ 0 → S.parse_Parser_step p w2 (fun w =>
          S.parse_fresh k (psn T st.1) w (fun Kind_48 A_49 B_50 C_51 Next_52 Val_53 Pos_54 Name_55 w =>
          New w (.cells #[.int .i64 0, .int .i64 0, .int .i64 0, .int .i64 0, .int .i64 0, .int .i64 0, .int .i64 0, .string ⟨#[]⟩] 150) fun p56 w =>
          St1 w ⟨p56, 0, none⟩ (.int .i64 Kind_48) fun w =>
          St1 w ⟨p56, 1, none⟩ (.int .i64 A_49) fun w =>
          St1 w ⟨p56, 2, none⟩ (.int .i64 B_50) fun w =>
          St1 w ⟨p56, 3, none⟩ (.int .i64 C_51) fun w =>
          St1 w ⟨p56, 4, none⟩ (.int .i64 Next_52) fun w =>
          St1 w ⟨p56, 5, none⟩ (.int .i64 Val_53) fun w =>
          St1 w ⟨p56, 6, none⟩ (.int .i64 Pos_54) fun w =>
          St1 w ⟨p56, 7, none⟩ (.string Name_55) fun w =>
          LdI .i64 w ⟨p56, 0, none⟩ fun Kind_57 =>
          LdI .i64 w ⟨p56, 1, none⟩ fun A_58 =>
          LdI .i64 w ⟨p56, 2, none⟩ fun B_59 =>
          LdI .i64 w ⟨p56, 3, none⟩ fun C_60 =>
          LdI .i64 w ⟨p56, 4, none⟩ fun Next_61 =>
          LdI .i64 w ⟨p56, 5, none⟩ fun Val_62 =>
          LdI .i64 w ⟨p56, 6, none⟩ fun Pos_63 =>
          LdStr w ⟨p56, 7, none⟩ fun Name_64 =>
          S.parse_Parser_closed p Kind_57 A_58 B_59 C_60 Next_61 Val_62 Pos_63 Name_64 l w (fun r65 w =>
          K r65 w))) := by
    intro k e hk
    refine rstep h2 hk fun w3 h3 => ?_
    refine fresh_spec fun w4 f4 => ?_
    refine (h3.ext f4).node (n := nd0 k (psn T st.1)) fun q w5 h5 => ?_
    refine ldNode h5.loc ?_
    refine rclosed hl h5.tail fun r w6 h6 hr6 => ?_
    exact hK r w6 (by rw [e]; exact h6) (by rw [e]; exact hr6)
  refine if_q (fun k8 => ?_) fun k8 => ?_
  · exact clo 7 (by unfold pStmt; rw [if_neg k4, if_neg k5, if_neg k7, if_pos k8]) (by omega)
  refine if_q (fun k9 => ?_) fun k9 => ?_
  · exact clo 8 (by unfold pStmt; rw [if_neg k4, if_neg k5, if_neg k7, if_neg k8, if_pos k9]) (by omega)
  · refine rplain hl h2 fun r w3 h3 hr3 => ?_
    have e : pStmt T l (pBlk T l) st = pPlain T l st := by unfold pStmt; rw [if_neg k4, if_neg k5, if_neg k7, if_neg k8, if_neg k9]
    exact hK r w3 (by rw [e]; exact h3) (by rw [e]; exact hr3)
theorem rblk_body {Rk Rs : R1} {l : Nat} {st : PS} {K : Int → World → Prop} (hl : l ≤ 8) (hs : ∀ l', l = l' + 1 → Sq T w0 P p tb ar lx Rs l' (pStmt T l' (pBlk T l'))) (h : PQ T w0 P p tb ar lx (.ok ((), st) : PR Unit) L w)
    (hK : ∀ r w', PQ T w0 P p tb ar lx (pBlk T l st) L w' → Rv (pBlk T l st) r → K r w') : B.parse_Parser_block Rk Rs p (l : Int) w K := by
  unfold B.parse_Parser_block
  refine ldB h.st.2.2.1 rfl ?_
  rw [if_neg (by simp)]
  refine rkind h fun w1 h1 => ?_
  by_cases hk : knd T st.1 = 19
  · rw [if_neg (by simp [hk])]
    refine ropen h1 (fun hl0 => ?_) (fun w4 hl0 h4 => ?_)
    · rw [if_neg (by simp)]
      cases l with
      | zero => omega
      | succ l' =>
        have etg : pBlk T (l' + 1) st = bnd (row T 20 (fun _ => pStmt T l' (pBlk T l')) (-1, -1) (st.1 + 1, st.2)) fun x s => bnd (pTake T 20 s) fun _ s => pAdd { nd0 2 (psn T st.1) with a := x } s := by
          conv => lhs; unfold pBlk
          rw [if_pos hk]
        have hadv : ∀ x : Int, Adv T ((fun _ => pStmt T l' (pBlk T l')) x) := fun _ => adv_stmt (adv_blk l') l'
        have hmk := mk_stmt h1.tok.val (mk_blk h1.tok.val l') l'
        rw [etg] at hK
        refine rat h1 fun w2 h2 => ?_
        refine fresh_spec fun w3 f3 => ?_
        refine (h2.ext f3).node (n := nd0 2 (psn T st.1)) fun q w4 h4 => ?_
        refine rstep h4 (by omega) fun w5 h5 => ?_
        have hlt5 := h5.lt
        generalize htg : row T 20 (fun _ => pStmt T l' (pBlk T l')) (-1, -1) (st.1 + 1, st.2) = tg at *
        refine join_W (fun u => (∃ e n, tg = .error e ∧ PQ T w0 P p tb ar lx (.error e : PR Int) ((q, ndV n) :: L) u) ∨ ∃ a s, tg = .ok (a, s) ∧ PQ T w0 P p tb ar lx (.ok ((), s) : PR Unit) ((q, ndV { nd0 2 (psn T st.1) with a := a }) :: L) u) ?_ ?_
        · rintro u (⟨e, n, rfl, hu⟩ | ⟨a, s, rfl, hu⟩)
          · refine rtake_err hu ?_
            rw [if_pos (by simp)]
            exact hK _ u hu.tail rfl
          · simp only [bnd_ok] at hK
            refine rtake hu (by omega) (fun w2 e2 h2 => ?_) (fun w2 q' e2 h2 => ?_)
            · rw [if_neg (by simp)]
              rw [e2] at hK
              simp only [bnd_ok] at hK
              refine ldNode h2.loc ?_
              exact radd h2.tail fun r w3 h3 hr3 => hK r w3 h3 hr3
            · rw [if_pos (by simp)]
              rw [e2] at hK
              exact hK _ w2 h2.tail rfl
        · intro J26 hJ26
          refine loopN (fun m v u => ∃ (a last : Int), v = (last, ()) ∧ ((∃ e n, tg = .error e ∧ PQ T w0 P p tb ar lx (.error e : PR Int) ((q, ndV n) :: L) u) ∨
              ∃ s, PQ T w0 P p tb ar lx (.ok ((), s) : PR Unit) ((q, ndV { nd0 2 (psn T st.1) with a := a }) :: L) u ∧ row T 20 (fun _ => pStmt T l' (pBlk T l')) (a, last) s = tg ∧ m = T.length - s.1 ∧ (a < 0 ↔ last < 0) ∧ last < s.2.length)) (T.length - (st.1 + 1))
            ⟨-1, -1, rfl, .inr ⟨_, h5, htg, rfl, by simp, by omega⟩⟩ ?_
          rintro m _ u ⟨a, last, rfl, hor⟩ Q hQ
          dsimp only
          rcases hor with ⟨e, n, he, hu⟩ | ⟨s, hu, heq, rfl, hfl, hll⟩
          · refine hu.flag (fun e' _ => ?_) (fun y st heq => by cases heq)
            rw [if_neg (by simp)]
            exact hJ26 u (.inl ⟨e, n, he, hu⟩)
          · have hlt := hu.lt
            refine hu.flag (fun e' heq => by cases heq) (fun y st' _ => ?_)
            rw [if_pos (by rfl)]
            refine rkind hu fun w2 h2 => ?_
            by_cases k20 : knd T s.1 = 20
            · rw [if_neg (by simp [k20])]
              rw [row_stop k20] at heq
              exact hJ26 w2 (.inr ⟨a, s, heq.symm, h2⟩)
            rw [if_pos (by simpa using k20)]
            rw [row_step hadv (by omega) k20] at heq
            dsimp only at heq
            rw [rdeep (by omega)]
            refine hs l' rfl _ s w2 _ h2 fun r9 w3 h3 hr3 => ?_
            rcases ho : pStmt T l' (pBlk T l') s with e | ⟨x, s3⟩
            · rw [ho] at h3 heq hr3
              have hr3 : r9 = -1 := hr3
              subst hr3
              refine rhang_err ?_
              refine ldI h3.loc rfl ?_
              by_cases ha : a < 0
              · rw [if_pos (by simpa using ha)]
                refine h3.st1 (by simp [ndV]) fun w4 h4 => ?_
                exact hQ 0 _ w4 (by omega) ⟨a, -1, rfl, .inl ⟨e, { nd0 2 (psn T st.1) with a := -1 }, heq.symm, h4⟩⟩
              · rw [if_neg (by simpa using ha)]
                exact hQ 0 _ w3 (by omega) ⟨a, -1, rfl, .inl ⟨e, _, heq.symm, h3⟩⟩
            · rw [ho] at h3 heq hr3
              have hr3 : r9 = x := hr3
              subst hr3
              have a1 := hadv 0 _ _ _ ho
              obtain ⟨a2, _⟩ := hmk _ _ _ ho
              have t1 := a2.top
              have t2 := a2.lt
              simp only [bnd_ok] at heq
              refine rhang h3 (by omega) (by omega) fun w4 h4 => ?_
              refine ldI h4.loc rfl ?_
              by_cases ha : a < 0
              · rw [if_pos (by simpa using ha)]
                rw [if_pos ha] at heq
                refine h4.st1 (by simp [ndV]) fun w5 h5 => ?_
                refine hQ (T.length - s3.1) _ w5 (by have := h3.lt; omega) ⟨r9, r9, rfl, .inr ⟨_, h5.okv, heq, by simp, by simp, by simp; omega⟩⟩
              · rw [if_neg (by simpa using ha)]
                rw [if_neg ha] at heq
                refine hQ (T.length - s3.1) _ w4 (by have := h3.lt; omega) ⟨a, r9, rfl, .inr ⟨_, h4.okv, heq, by simp, by omega, by simp; omega⟩⟩
    · rw [if_pos (by simp)]
      have : l = 0 := by omega
      subst this
      have e : pBlk T 0 st = .error (11, psn T st.1) := by unfold pBlk; rw [if_pos hk]
      exact hK _ w4 (by rw [e]; exact h4) (by rw [e]; rfl)
  · rw [if_pos (by simpa using hk)]
    refine rat h1 fun w2 h2 => ?_
    refine rfail (β := Int) h2 (by omega) fun w3 h3 => ?_
    have e : pBlk T l st = .error (10, psn T st.1) := by
      cases l with
      | zero => unfold pBlk; rw [if_neg hk]
      | succ l' => unfold pBlk; rw [if_neg hk]
    exact hK _ w3 (by rw [e]; exact h3) (by rw [e]; rfl)
theorem rblk_srv (T : List Tok) (w0 : World) (P : Nat → Prop) (p tb ar lx : Nat) {l : Nat} (hl : l ≤ 8) : Sg T w0 P p tb ar lx S.parse_Parser_block l (pBlk T l) := by
  have key : ∀ L w K (hx : (∃ st : PS, PQ T w0 P p tb ar lx (.ok ((), st) : PR Unit) L w ∧ (∀ r w', PQ T w0 P p tb ar lx (pBlk T l st) L w' → Rv (pBlk T l st) r → K r w')) ∨
      ∃ e, PQ T w0 P p tb ar lx (.error e : PR Unit) L w ∧ ∀ w', PQ T w0 P p tb ar lx (.error e : PR Int) L w' → K (-1) w'), S.parse_Parser_block p (l : Int) w K := by
    intro L w K hx
    refine ⟨fun n p' d w K => ∃ (l : Nat) (L : List (Nat × List Value)), p' = p ∧ d = (l : Int) ∧ l ≤ 8 ∧ n = l * 2 ∧ ((∃ st : PS, PQ T w0 P p tb ar lx (.ok ((), st) : PR Unit) L w ∧ (∀ r w', PQ T w0 P p tb ar lx (pBlk T l st) L w' → Rv (pBlk T l st) r → K r w')) ∨
        ∃ e, PQ T w0 P p tb ar lx (.error e : PR Unit) L w ∧ ∀ w', PQ T w0 P p tb ar lx (.error e : PR Int) L w' → K (-1) w'),
      fun n p' d w K => ∃ (l : Nat) (L : List (Nat × List Value)) (st : PS), p' = p ∧ d = (l : Int) ∧ l ≤ 8 ∧ n = l * 2 + 1 ∧ PQ T w0 P p tb ar lx (.ok ((), st) : PR Unit) L w ∧ (∀ r w', PQ T w0 P p tb ar lx (pStmt T l (pBlk T l) st) L w' → Rv (pStmt T l (pBlk T l) st) r → K r w'),
      ⟨?_, ?_⟩, l * 2, l, L, rfl, rfl, hl, rfl, hx⟩
    · rintro n p' d w K ⟨l, L, rfl, rfl, hl, rfl, ⟨st, h, hK⟩ | ⟨e, h, hK⟩⟩
      · refine rblk_body hl (fun l' e L st w K h1 h2 => ?_) h hK
        exact ⟨l' * 2 + 1, by omega, l', L, st, rfl, rfl, by omega, rfl, h1, h2⟩
      · unfold B.parse_Parser_block
        obtain ⟨a1, i, m, a2, a3⟩ := h.st
        refine ldB a2 rfl ?_
        rw [if_pos rfl]
        exact hK w h.errv
    · rintro n p' d w K ⟨l, L, st, rfl, rfl, hl, rfl, h, hK⟩
      refine rstmt_body hl ⟨fun L st w K h1 h2 => ?_, fun L e w K h1 h2 => ?_⟩ h hK
      · exact ⟨l * 2, by omega, l, L, rfl, rfl, hl, rfl, .inl ⟨st, h1, h2⟩⟩
      · exact ⟨l * 2, by omega, l, L, rfl, rfl, hl, rfl, .inr ⟨e, h1, h2⟩⟩
  exact ⟨fun L st w K h1 h2 => key L w K (.inl ⟨st, h1, h2⟩), fun L e w K h1 h2 => key L w K (.inr ⟨e, h1, h2⟩)⟩
end Go.Proofs.Qxb6500562aGreat
