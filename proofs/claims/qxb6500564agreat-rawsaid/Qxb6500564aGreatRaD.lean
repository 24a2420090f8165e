/-
  Exec: the real engine's.
-/
import Derived.Test.Qxb6500564aGreatRaC
import Derived.Test.Qxb6500564aGreatS9
namespace Go.Proofs.Qxb6500564aGreat
open Go.Den Go.Zip
set_option linter.unusedVariables false
set_option linter.unusedSimpArgs false
variable {dq : Nat}
variable {w w' w3 u v : World} {i j k n a b b0 q g d p h0 p1 p2 p3 : Nat} {nm n0 text : ByteArray} {T : Smt} {y : Nat → Sl} {D : List Bk} {R R' : List Wr} {cur cur' : Nat → Bk} {U U' : Mu} {O O' O1 O1' Op : Nat → Prop} {t tq : Tb} {s : Int} {A : Rz} {vs : List Value}

theorem any13 {K : World → Prop} {v0 v1 v2 v3 v4 v5 v6 v7 v8 v9 v10 v11 v12 : Value} (h : Blk w q vs) (hl : vs.length = 13) (hK : ∀ w', Fr q 1 w w' → K w') :
    St1 w ⟨q, 0, none⟩ v0 fun w => St1 w ⟨q, 1, none⟩ v1 fun w => St1 w ⟨q, 2, none⟩ v2 fun w => St1 w ⟨q, 3, none⟩ v3 fun w => St1 w ⟨q, 4, none⟩ v4 fun w => St1 w ⟨q, 5, none⟩ v5 fun w => St1 w ⟨q, 6, none⟩ v6 fun w => St1 w ⟨q, 7, none⟩ v7 fun w => St1 w ⟨q, 8, none⟩ v8 fun w => St1 w ⟨q, 9, none⟩ v9 fun w => St1 w ⟨q, 10, none⟩ v10 fun w => St1 w ⟨q, 11, none⟩ v11 fun w => St1 w ⟨q, 12, none⟩ v12 fun w => K w :=
  anySt h hl (by omega) fun w1 _ h hl f1 => anySt h hl (by omega) fun w2 _ h hl f2 => anySt h hl (by omega) fun w3 _ h hl f3 => anySt h hl (by omega) fun w4 _ h hl f4 => anySt h hl (by omega) fun w5 _ h hl f5 => anySt h hl (by omega) fun w6 _ h hl f6 => anySt h hl (by omega) fun w7 _ h hl f7 => anySt h hl (by omega) fun w8 _ h hl f8 => anySt h hl (by omega) fun w9 _ h hl f9 => anySt h hl (by omega) fun w10 _ h hl f10 => anySt h hl (by omega) fun w11 _ h hl f11 => anySt h hl (by omega) fun w12 _ h hl f12 => anySt h hl (by omega) fun w13 _ h hl f13 =>
  hK w13 ((((((((((((f1.trans f2).trans f3).trans f4).trans f5).trans f6).trans f7).trans f8).trans f9).trans f10).trans f11).trans f12).trans f13)
theorem sts13 {K : World → Prop} (h : Blk w q vs) (hl : vs.length = 13) (hK : ∀ w', Blk w' q (smC T y) → Fr q 1 w w' → K w') :
    St1 w ⟨q, 0, none⟩ (.int .i64 (T.kind : Nat)) fun w => St1 w ⟨q, 1, none⟩ (.string T.table) fun w => St1 w ⟨q, 2, none⟩ (.slice (y 0).a (y 0).l (y 0).c) fun w => St1 w ⟨q, 3, none⟩ (.int .i64 (T.pk : Nat)) fun w =>
    St1 w ⟨q, 4, none⟩ (.slice (y 1).a (y 1).l (y 1).c) fun w => St1 w ⟨q, 5, none⟩ (.bool T.star) fun w => St1 w ⟨q, 6, none⟩ (.slice (y 2).a (y 2).l (y 2).c) fun w => St1 w ⟨q, 7, none⟩ (.slice (y 3).a (y 3).l (y 3).c) fun w =>
    St1 w ⟨q, 8, none⟩ (.slice (y 4).a (y 4).l (y 4).c) fun w => St1 w ⟨q, 9, none⟩ (.string T.order) fun w => St1 w ⟨q, 10, none⟩ (.bool T.desc) fun w => St1 w ⟨q, 11, none⟩ (.bool T.hasLim) fun w => St1 w ⟨q, 12, none⟩ (.int .i64 T.lim) fun w => K w := by
  match vs, hl with
  | [_, _, _, _, _, _, _, _, _, _, _, _, _], _ =>
    exact st1 h (by show _ < 13; omega) fun w1 h f1 _ => st1 h (by show _ < 13; omega) fun w2 h f2 _ => st1 h (by show _ < 13; omega) fun w3 h f3 _ => st1 h (by show _ < 13; omega) fun w4 h f4 _ => st1 h (by show _ < 13; omega) fun w5 h f5 _ => st1 h (by show _ < 13; omega) fun w6 h f6 _ => st1 h (by show _ < 13; omega) fun w7 h f7 _ => st1 h (by show _ < 13; omega) fun w8 h f8 _ => st1 h (by show _ < 13; omega) fun w9 h f9 _ => st1 h (by show _ < 13; omega) fun w10 h f10 _ => st1 h (by show _ < 13; omega) fun w11 h f11 _ => st1 h (by show _ < 13; omega) fun w12 h f12 _ => st1 h (by show _ < 13; omega) fun w13 h f13 _ =>
      hK w13 h ((((((((((((f1.trans f2).trans f3).trans f4).trans f5).trans f6).trans f7).trans f8).trans f9).trans f10).trans f11).trans f12).trans f13)
set_option maxHeartbeats 16000000 in
theorem exec_spec {K : Int → Int → Sl → Sl → World → Prop} (he : EV dq w q D R cur U O) (hR : R.length ≤ 100000) (hcm : Cm D R cur)
    (hK : ∀ w' O' R' cur' c r, RStep R R' → Cm D R' cur' → EV dq w' q D R' cur' (exP s text U).2 O' → RA w.heap.size w' O' (exP s text U).1 c r → Gw O w O' w' → K (exP s text U).1.e (exP s text U).1.n c r w') : S.query_Engine_Exec q s text w K := by
  unfold S.query_Engine_Exec
  have ok := he.ok
  refine newB fun w1 q1 f1 z1 => ?_
  have q1 : Blk w1 w.heap.size (rsC 0 0 nilS nilS) := q1
  have hl1 := q1.lt
  have nO : ∀ b, w.heap.size ≤ b → ¬ O b := fun b h1 h2 => by have := he.lt h2; omega
  generalize hE : exP s text U = E at hK
  have ans : ∀ (e n : Int) (c r : Sl) (vs : List Value) (u : World) (Op : Nat → Prop) (R' : List Wr) (cur' : Nat → Bk), RStep R R' → Cm D R' cur' → EV dq u q D R' cur' E.2 Op → (∀ b, Op b → O b ∨ w1.heap.size ≤ b) → Blk u w.heap.size vs → vs.length = 4 → RA w1.heap.size u Op E.1 c r → FrP O w u → e = E.1.e → n = E.1.n →
      (St1 u ⟨w.heap.size, 0, none⟩ (.int .i64 e) fun w_1 => St1 w_1 ⟨w.heap.size, 1, none⟩ (.int .i64 n) fun w_1 => St1 w_1 ⟨w.heap.size, 2, none⟩ (.slice c.a c.l c.c) fun w_1 => St1 w_1 ⟨w.heap.size, 3, none⟩ (.slice r.a r.l r.c) fun w_1 =>
        LdI .i64 w_1 ⟨w.heap.size, 0, none⟩ fun Err_4 => LdI .i64 w_1 ⟨w.heap.size, 1, none⟩ fun N_5 => LdS w_1 ⟨w.heap.size, 2, none⟩ fun Cols_6 => LdS w_1 ⟨w.heap.size, 3, none⟩ fun Rows_7 => K Err_4 N_5 Cols_6 Rows_7 w_1) := fun e n c r vs u Op R' cur' rs cm hev hOp bu hvl ra F he hn => by
    subst he; subst hn
    refine stR (c := c) (r := r) bu hvl fun u2 b2 k2 => ldR b2 ?_
    have k2' : FrP (fun b => b = w.heap.size) u u2 := FrP.of k2 fun b h1 h2 => by omega
    refine hK u2 Op R' cur' c r rs cm (hev.frp k2' fun b hb e => ?_) (((ra.plus (p := w.heap.size) hl1).keep k2' (fun b hb => .inl (.inr hb)) fun b hb => .inl (.inl hb)).low (by omega)) ⟨F.trans' k2' fun b hb => .inr (by omega), fun b hb => (hOp b hb).imp_right fun h => by omega⟩
    subst e
    rcases hOp _ hb with h | h
    · exact nO _ (by omega) h
    · omega
  have err : ∀ (e : Int) (u : World) (Op : Nat → Prop) (R' : List Wr) (cur' : Nat → Bk), RStep R R' → Cm D R' cur' → EV dq u q D R' cur' E.2 Op → (∀ b, Op b → O b ∨ w1.heap.size ≤ b) → Blk u w.heap.size (rsC 0 0 nilS nilS) → E.1 = errZ e → FrP O w u →
      S.query_fail e u (fun Err_22 N_23 Cols_24 Rows_25 w_1 =>
        St1 w_1 ⟨w.heap.size, 0, none⟩ (.int .i64 Err_22) fun w_1 => St1 w_1 ⟨w.heap.size, 1, none⟩ (.int .i64 N_23) fun w_1 => St1 w_1 ⟨w.heap.size, 2, none⟩ (.slice Cols_24.a Cols_24.l Cols_24.c) fun w_1 => St1 w_1 ⟨w.heap.size, 3, none⟩ (.slice Rows_25.a Rows_25.l Rows_25.c) fun w_1 =>
        LdI .i64 w_1 ⟨w.heap.size, 0, none⟩ fun Err_26 => LdI .i64 w_1 ⟨w.heap.size, 1, none⟩ fun N_27 => LdS w_1 ⟨w.heap.size, 2, none⟩ fun Cols_28 => LdS w_1 ⟨w.heap.size, 3, none⟩ fun Rows_29 => K Err_26 N_27 Cols_28 Rows_29 w_1) := fun e u Op R' cur' rs cm hev hOp bu hr F => by
    refine fail_spec fun u2 g2 => ?_
    exact ans e 0 nilS nilS _ u2 Op R' cur' rs cm (hev.fr0 g2) hOp (bu.fr g2 (by omega)) rfl (RA.nil (by rw [hr]; rfl) (by rw [hr]; rfl)) (F.trans (FrP.of0 g2)) (by rw [hr]; rfl) (by rw [hr]; rfl)
  have F1 : FrP O w w1 := FrP.of0 f1
  have rs0 : RStep R R := .inl rfl
  refine ifd (fun hlong => ?_) fun hlong => ?_
  · have hlong : text.size > 256 := by omega
    have er := exP_long (s := s) (U := U) hlong
    rw [hE] at er
    exact err 24 w1 O R cur rs0 hcm (by rw [er]; exact he.fr0 f1) (fun b hb => .inl hb) q1 (by rw [er]) F1
  have hlong : ¬ text.size > 256 := by omega
  refine goodSess_spec ?_
  cases hg : gs s with
  | false =>
    have er := exP_sess (U := U) hlong hg
    rw [hE] at er
    rw [if_pos (by rfl)]
    exact err 20 w1 O R cur rs0 hcm (by rw [er]; exact he.fr0 f1) (fun b hb => .inl hb) q1 (by rw [er]) F1
  | true =>
  rw [if_neg (by simp)]
  obtain ⟨k, hk, hs⟩ := gs_nat hg
  subst hs
  refine Parse_spec (by omega) (fun hp u g => ?_) fun T hp u y ml g => ?_
  · have er := exP_bad (U := U) hlong hg hp
    rw [hE] at er
    have hle := g.le
    refine newB fun u1 r1 g1 y1 => any13 r1 rfl fun u2 g2 => ?_
    have gg := (g.trans g1).thenNew g2 hle
    rw [if_pos (by rfl)]
    exact err 22 u2 O R cur rs0 hcm (by rw [er]; exact (he.fr0 f1).fr0 gg) (fun b hb => .inl hb) (q1.fr gg (by omega)) (by rw [er]) (F1.trans (FrP.of0 gg))
  have er := exP_st (U := U) hlong hg hp
  rw [hE] at er
  have hT := prs_ok hp
  have hkd := hT.kd
  have hle := g.le
  refine newB fun u1 r1 g1 y1 => sts13 (T := T) (y := y) r1 rfl fun u2 r2 g2 => ?_
  have gg : Fr 0 0 w1 u2 := (g.trans g1).thenNew g2 hle
  have g02 : Fr 0 0 u u2 := g1.thenNew g2 (Nat.le_refl _)
  have hev := (he.fr0 f1).fr0 gg
  have q1u := q1.fr gg (by omega)
  have oy : ∀ i, i < 5 → OS u2 (y i) (vc T i) (sz i) := fun i hi => OS.fr0 (ml.os i hi) g02
  have Fu : FrP O w u2 := F1.trans (FrP.of0 gg)
  have by_ : ∀ i, i < 5 → ∀ b, owns (y i) b → w1.heap.size ≤ b := ml.no
  have ny : ∀ i, i < 5 → ∀ b, owns (y i) b → ¬ O b := fun i hi b hb => nO b (by have := by_ i hi b hb; omega)
  have hszu : w1.heap.size ≤ u.heap.size := hle
  have hlt2 := r2.lt
  obtain ⟨g, O1, last, bq, hx1, nq, hO1, hlast⟩ := hev.open_
  rw [if_neg (by simp)]
  have same : ∀ (e : Int) (v : World), FrP O u2 v → EV dq v q D R cur U O → E = (errZ e, U) → S.query_fail e v (fun Err_22 N_23 Cols_24 Rows_25 w_1 =>
        St1 w_1 ⟨w.heap.size, 0, none⟩ (.int .i64 Err_22) fun w_1 => St1 w_1 ⟨w.heap.size, 1, none⟩ (.int .i64 N_23) fun w_1 => St1 w_1 ⟨w.heap.size, 2, none⟩ (.slice Cols_24.a Cols_24.l Cols_24.c) fun w_1 => St1 w_1 ⟨w.heap.size, 3, none⟩ (.slice Rows_25.a Rows_25.l Rows_25.c) fun w_1 =>
        LdI .i64 w_1 ⟨w.heap.size, 0, none⟩ fun Err_26 => LdI .i64 w_1 ⟨w.heap.size, 1, none⟩ fun N_27 => LdS w_1 ⟨w.heap.size, 2, none⟩ fun Cols_28 => LdS w_1 ⟨w.heap.size, 3, none⟩ fun Rows_29 => K Err_26 N_27 Cols_28 Rows_29 w_1) := fun e v F hv hE' =>
    err e v O R cur rs0 hcm (by rw [hE']; exact hv) (fun b hb => .inl hb) (q1u.frp F (nO _ (by omega))) (by rw [hE']) (Fu.trans F)
  have turn : ∀ (e : Int) (v : World) (U' : Mu) (O1' : Nat → Prop) (R' : List Wr) (cur' : Nat → Bk) (u' : World), FrP O u2 u' → Blk u' q [ptrV g, .int .i64 ((last : Nat) : Int)] → RStep R R' → Cm D R' cur' → XV dq v g D R' cur' U' O1' → Gw O1 u' O1' v → E = (errZ e, U') → S.query_fail e v (fun Err_22 N_23 Cols_24 Rows_25 w_1 =>
        St1 w_1 ⟨w.heap.size, 0, none⟩ (.int .i64 Err_22) fun w_1 => St1 w_1 ⟨w.heap.size, 1, none⟩ (.int .i64 N_23) fun w_1 => St1 w_1 ⟨w.heap.size, 2, none⟩ (.slice Cols_24.a Cols_24.l Cols_24.c) fun w_1 => St1 w_1 ⟨w.heap.size, 3, none⟩ (.slice Rows_25.a Rows_25.l Rows_25.c) fun w_1 =>
        LdI .i64 w_1 ⟨w.heap.size, 0, none⟩ fun Err_26 => LdI .i64 w_1 ⟨w.heap.size, 1, none⟩ fun N_27 => LdS w_1 ⟨w.heap.size, 2, none⟩ fun Cols_28 => LdS w_1 ⟨w.heap.size, 3, none⟩ fun Rows_29 => K Err_26 N_27 Cols_28 Rows_29 w_1) := fun e v U' O1' R' cur' u' F bq' rs cm x1 G1 hE' => by
    have pt := EV.put (O := O) bq' nq hO1 hlast x1 G1
    have hle' := F.1.1
    exact err e v _ R' cur' rs cm (by rw [hE']; exact pt.1) (fun b hb => (pt.2.2 b hb).imp_right fun h => by omega) ((q1u.frp F (nO _ (by omega))).frp pt.2.1 (nO _ (by omega))) (by rw [hE']) ((Fu.trans F).trans pt.2.1)
  have Fr0 : FrP O u2 u2 := FrP.refl _ _
  have Fd : FrP O u2 u2.drew := Fr0.drew
  have wO : ∀ {a b : World}, FrP O1 a b → FrP O a b := fun {a b} F => F.mono fun b hb => (hO1 b).2 (.inr hb)
  refine ldI r2 rfl (ifk (fun h => ?_) fun hn1 => ifk (fun h => ?_) fun hn2 => ifk (fun h => ?_) fun hn3 => ifk (fun h => ?_) fun hn4 => ifk (fun h => ?_) fun hn5 => ifk (fun h => ?_) fun hn6 => ?_)
  · have h : T.kind = 1 := by
      have h : ((T.kind : Nat) : Int) = 1 := h
      omega
    unfold stP at er
    rw [if_pos h] at er
    refine ldP bq rfl (xbegin_spec hx1 (fun hne => ?_) fun h0 v x1 G1 => ?_)
    · rw [if_pos hne] at er
      exact same _ _ Fr0 hev er
    · rw [if_neg (fun h => h h0)] at er
      exact turn _ _ _ _ _ _ u2 Fr0 bq rs0 hcm x1 ⟨G1, fun b hb => .inl hb⟩ er
  · have h : T.kind = 2 := by
      have h : ((T.kind : Nat) : Int) = 2 := h
      omega
    unfold stP at er
    rw [if_neg (by omega), if_pos h] at er
    refine ldP bq rfl (xcommit_spec hx1 hR hcm (fun hne => ?_) fun h0 v O1' R' cur' rs cm x1 G1 => ?_)
    · rw [if_pos hne] at er
      exact same _ _ Fr0 hev er
    · rw [if_neg (fun h => h h0)] at er
      exact turn _ _ _ _ _ _ u2 Fr0 bq rs cm x1 G1 er
  · have h : T.kind = 3 := by
      have h : ((T.kind : Nat) : Int) = 3 := h
      omega
    unfold stP at er
    rw [if_neg (by omega), if_neg (by omega), if_pos h] at er
    refine ldP bq rfl (xroll_spec hx1 (fun hne => ?_) fun h0 v O1' x1 G1 => ?_)
    · rw [if_pos hne] at er
      exact same _ _ Fr0 hev er
    · rw [if_neg (fun h => h h0)] at er
      exact turn _ _ _ _ _ _ u2 Fr0 bq rs0 hcm x1 G1 er
  · have h : T.kind = 4 := by
      have h : ((T.kind : Nat) : Int) = 4 := h
      omega
    unfold stP at er
    rw [if_neg (by omega), if_neg (by omega), if_neg (by omega), if_pos h] at er
    unfold ddl at er
    refine drew_ (ldP bq.drew rfl (ldStr r2.drew rfl (ldS r2.drew rfl (ldI r2.drew rfl (xcreate_spec (cs := T.defs) hx1.dr hR hcm (OS.dr (oy 0 (by omega))) (fun b hb h => ny 0 (by omega) b hb ((hO1 b).2 (.inr h))) (fun hne => ?_) fun h0 v O1' R' cur' rs cm x1 G1 => ?_)))))
    · rw [if_pos hne] at er
      exact same _ _ Fd hev.dr er
    · rw [if_neg (fun h => h h0)] at er
      exact turn _ _ _ _ _ _ u2.drew Fd bq.drew rs cm x1 G1 er
  · have h : T.kind = 5 := by
      have h : ((T.kind : Nat) : Int) = 5 := h
      omega
    unfold stP at er
    rw [if_neg (by omega), if_neg (by omega), if_neg (by omega), if_neg (by omega), if_pos h] at er
    unfold ddl at er
    refine drew_ (ldP bq.drew rfl (ldStr r2.drew rfl (xdrop_spec hx1.dr hR hcm (fun hne => ?_) fun h0 v O1' R' cur' rs cm x1 G1 => ?_)))
    · rw [if_pos hne] at er
      exact same _ _ Fd hev.dr er
    · rw [if_neg (fun h => h h0)] at er
      exact turn _ _ _ _ _ _ u2.drew Fd bq.drew rs cm x1 G1 er
  · have h : T.kind = 6 := by
      have h : ((T.kind : Nat) : Int) = 6 := h
      omega
    unfold stP at er
    rw [if_neg (by omega), if_neg (by omega), if_neg (by omega), if_neg (by omega), if_neg (by omega), if_pos h] at er
    unfold ddl at er
    obtain ⟨x, hx⟩ := hT.k6 h
    refine join_P (fun (p3 : Nat) (u3 : World) => XV dq u3 g D R cur U O1 ∧ FrP O1 u2 u3 ∧ ∃ nm0 sc cs pk ix, Blk u3 p3 (schC nm0 sc pk ix) ∧ OS u3 sc (colC cs) 2 ∧ cs.length ≤ 3 ∧ coI cs x = ixC T U) ?_ ?_
    · rintro p3 u3 ⟨x3, F3, nm0, sc, cs, pk, ixx, b3, oc, hcl, hco⟩
      have r3 := r2.frp (wO F3) (nO _ (by omega))
      have bq3 := bq.frp F3 nq
      have ol : OS u3 (y 2) (strC [x]) 1 := by
        have := (oy 2 (by omega)).frp (wO F3) (ny 2 (by omega))
        have e : vc T 2 = strC [x] := by show strC T.list = _; rw [hx]
        rw [e] at this
        exact this
      refine drew_ (ldStr b3.drew rfl (ldS b3.drew rfl (ldI b3.drew rfl (ldI b3.drew rfl (ldS r3.drew rfl (cellAt (i := 0) (c := 1) (f := fun x : ByteArray => [Value.string x]) (fun _ => rfl) (OS.dr ol) (by omega) (l := [x]) rfl fun g5 us5 hb5 e05 ek5 ho5 => ldStr hb5 e05 (ColOf_spec (OS.dr oc) (by omega) fun v g2 => ?_)))))))
      rw [hco]
      have bq4 := (bq3.drew.fr g2 (by omega)).drew
      have F4 : FrP O u2 v.drew := ((wO F3).drew.trans (FrP.of0 g2)).drew
      have x4 := (x3.dr.fr0 g2).dr
      refine drew_ (ldP bq4 rfl (ldStr (r3.drew.fr g2 (by omega)).drew rfl (xindex_spec x4 hR hcm (fun hne => ?_) fun h0 v2 O1' R' cur' rs cm x1 G1 => ?_)))
      · rw [if_pos hne] at er
        exact same _ _ F4 ⟨g, O1, last, bq4, x4, nq, hO1, hlast⟩ er
      · rw [if_neg (fun h => h h0)] at er
        exact turn _ _ _ _ _ _ v.drew F4 bq4 rs cm x1 G1 er
    · intro J118 hJ
      have qd := r2.drew
      have bqd := bq.drew
      have hxd := hx1.dr
      have hd2 : u2.drew.heap.size = u2.heap.size := rfl
      have n1O : ∀ b, w.heap.size ≤ b → ¬ O1 b := fun b hb h => nO b hb ((hO1 b).2 (.inr h))
      have n2 : ∀ {a b : World} {p : Nat}, Fr p 1 a b → u2.heap.size ≤ p → FrP (fun x => u2.heap.size ≤ x) a b := fun {a b p} f h => FrP.of f fun x h1 h2 => by omega
      have nx : ∀ {a b : World} {p : Nat}, Fr p 1 a b → u2.heap.size ≤ p → XV dq a g D R cur U O1 → XV dq b g D R cur U O1 := fun {a b p} f h x => x.frp (n2 f h) fun b hb h' => n1O b (by omega) hb
      have okS : ∀ (t : Tb) (p3 qq : Nat) (u3 : World), FrP O1 u2.drew u3 → XV dq u3 g D R cur U O1 → fnB T.table (U.db 0) = some t → Blk u3 p3 (schC T.table (fullS qq t.cols.length) (t.pk : Nat) t.ix) → Blk u3 qq (colC t.cols) → J118 p3 u3 := fun t p3 qq u3 F x3 hf b3 bc => by
        have okt := (ok.d 0 (by omega)).ok t (fnB_mem hf).1
        unfold TbOk at okt
        exact hJ _ _ ⟨x3, (FrP.refl O1 u2).drew.trans F, _, _, _, _, _, b3, fullOS bc, okt.2.1.2, by unfold ixC; rw [hf, hx]; rfl⟩
      have noS : ∀ (p3 : Nat) (u3 : World), FrP O1 u2.drew u3 → XV dq u3 g D R cur U O1 → fnB T.table (U.db 0) = none → Blk u3 p3 (schC ⟨#[]⟩ nilS 0 (-1)) → J118 p3 u3 := fun p3 u3 F x3 hf b3 =>
        hJ _ _ ⟨x3, (FrP.refl O1 u2).drew.trans F, _, _, [], _, _, b3, OS.nil _ _, by simp, by unfold ixC; rw [hf]; rfl⟩
      refine drew_ (hold_ (ldP bqd rfl (hold_ (ldStr qd rfl ⟨xschema_spec hxd (fun hf u x F => ?_) fun t hf u qq x F hqq bc => ?_, newB fun u r1 g1 y1 => ⟨holdS qd (qd.fr g1 (by omega)), holdS bqd (bqd.fr g1 (by omega)), xschema_spec (hxd.fr0 g1) (fun hf u2 x2 F2 => ?_) fun t hf u2 qq x2 F2 hqq bc => ?_⟩⟩))))
      · have hle := F.1.1
        refine newB fun u1 r1 g1 y1 => ⟨holdS qd ((qd.frp F (n1O _ (by omega))).fr g1 (by omega)), holdS bqd ((bqd.frp F nq).fr g1 (by omega)), st4 (s := nilS) r1 rfl fun u2 r2 g2 => ?_⟩
        exact noS _ _ ((F.trans (FrP.of0 g1)).trans' (n2 g2 (by omega)) fun b hb => .inr hb) (nx g2 (by omega) (x.fr0 g1)) hf r2
      · have hle := F.1.1
        refine newB fun u1 r1 g1 y1 => ⟨holdS qd ((qd.frp F (n1O _ (by omega))).fr g1 (by omega)), holdS bqd ((bqd.frp F nq).fr g1 (by omega)), st4 (s := fullS qq t.cols.length) r1 rfl fun u2 r2 g2 => ?_⟩
        have hlt := bc.lt
        exact okS t _ qq _ ((F.trans (FrP.of0 g1)).trans' (n2 g2 (by omega)) fun b hb => .inr hb) (nx g2 (by omega) (x.fr0 g1)) hf r2 ((bc.fr g1 (by omega)).fr g2 (by omega))
      · have hle := g1.le
        have hr := r1.lt
        refine st4 (s := nilS) (r1.frp F2 (n1O _ (by omega))) rfl fun u3 r3 g3 => ?_
        exact noS _ _ (((FrP.of0 g1).trans F2).trans' (n2 g3 (by omega)) fun b hb => .inr hb) (nx g3 (by omega) x2) hf r3
      · have hle := g1.le
        have hr := r1.lt
        refine st4 (s := fullS qq t.cols.length) (r1.frp F2 (n1O _ (by omega))) rfl fun u3 r3 g3 => ?_
        exact okS t _ qq _ (((FrP.of0 g1).trans F2).trans' (n2 g3 (by omega)) fun b hb => .inr hb) (nx g3 (by omega) x2) hf r3 (bc.fr g3 (by omega))
  · have h1 : ¬ ((T.kind : Nat) : Int) = 1 := hn1
    have h2 : ¬ ((T.kind : Nat) : Int) = 2 := hn2
    have h3 : ¬ ((T.kind : Nat) : Int) = 3 := hn3
    have h4 : ¬ ((T.kind : Nat) : Int) = 4 := hn4
    have h5 : ¬ ((T.kind : Nat) : Int) = 5 := hn5
    have h6' : ¬ ((T.kind : Nat) : Int) = 6 := hn6
    have h7 : 7 ≤ T.kind := by omega
    unfold stP at er
    rw [if_neg (by omega), if_neg (by omega), if_neg (by omega), if_neg (by omega), if_neg (by omega), if_neg (by omega), Int.toNat_natCast] at er
    refine ldP bq rfl (xact_spec hx1 ?_)
    have hae : actE (k : Nat) U = U.act k := by unfold actE; rw [hg, Int.toNat_natCast]; rfl
    rw [hae]
    cases hact : U.act k with
    | true =>
      rw [if_pos hact] at er
      rw [if_pos rfl]
      refine ld13 r2 (run_spec (b0 := w1.heap.size) hev oy by_ ny (by omega) hT h7 rfl hk hact fun v O' c r hv ra hO' F' => ?_)
      exact ans _ _ c r _ v O' R cur rs0 hcm (by rw [er]; exact hv) (fun b hb => (hO' b hb).imp_right fun h => by omega) (q1u.frp F' fun h => h.elim (nO _ (by omega)) fun h => by omega) rfl (by rw [er]; exact ra) (Fu.trans' F' fun b hb => hb.elim .inl fun h => .inr (by omega)) (by rw [er]) (by rw [er])
    | false =>
      rw [if_neg (by rw [hact]; simp)] at er
      rw [if_neg (by simp)]
      unfold ownP at er
      rw [Int.toNat_natCast] at er
      have ak := (ask_of (U := U) (s := (k : Nat)) rfl hk).2.2 hact
      have ok1 := ok.begin hk hact
      have ha1 : (muBegin k U).act k = true := by unfold muBegin; dsimp only; rw [fset_eq]
      refine ldP bq rfl (xbegin_spec hx1 (fun hne => absurd ak hne) fun _ v x1 F1' => ?_)
      rw [Int.toNat_natCast] at x1
      have hv : EV dq v q D R cur (muBegin k U) O := ⟨g, O1, last, bq.frp F1' nq, x1, nq, hO1, hlast⟩
      have G := wO F1'
      have oyv : ∀ i, i < 5 → OS v (y i) (vc T i) (sz i) := fun i hi => (oy i hi).frp G (ny i hi)
      have r2v := r2.frp G (nO _ (by omega))
      have hle2 := G.1.1
      have rk := runP_ok (T := T) ok1 hT hk ha1
      refine ld13 r2v (run_spec (b0 := w1.heap.size) hv oyv by_ ny (by omega) hT h7 rfl hk ha1 fun v' O' c r hv' ra hO' F' => ?_)
      refine newB fun v1 r3 g3 y3 => stR (c := c) (r := r) r3 rfl fun v2 r4 g4 => ?_
      have g34 := g3.thenNew g4 (Nat.le_refl _)
      have q1v : Blk v2 w.heap.size (rsC 0 0 nilS nilS) := ((q1u.frp G (nO _ (by omega))).frp F' fun h => h.elim (nO _ (by omega)) fun h => by omega).fr g34 (by omega)
      have Fv : FrP O w v2 := ((Fu.trans G).trans' F' fun b hb => hb.elim .inl fun h => .inr (by omega)).trans (FrP.of0 g34)
      have hO2 : ∀ b, O' b → O b ∨ w1.heap.size ≤ b := fun b hb => (hO' b hb).imp_right fun h => by omega
      have hv2 := hv'.fr0 g34
      have ra2 := ra.fr0 g34
      have ha2 : (runP (k : Nat) T (muBegin k U)).2.act k = true := by rw [rk.2]; exact ha1
      have ak2 := (ask_of (U := (runP (k : Nat) T (muBegin k U)).2) (s := (k : Nat)) rfl hk).2.1 ha2
      have hszv : w1.heap.size ≤ v2.heap.size := by have := F'.1.1; have := g34.le; omega
      obtain ⟨g', O2, last', bq2, hx2, nq2, hO22, hlast'⟩ := hv2.open_
      have np2 : v'.heap.size < v2.heap.size := r4.lt
      have nO'2 : ¬ O' v'.heap.size := fun h => by have := hv'.lt h; omega
      refine join_P (fun e v3 => e = 0 ∧ ∃ Op R' cur', RStep R R' ∧ Cm D R' cur' ∧ EV dq v3 q D R' cur' E.2 Op ∧ (∀ b, Op b → O b ∨ w1.heap.size ≤ b) ∧ Blk v3 w.heap.size (rsC 0 0 nilS nilS) ∧ Blk v3 v'.heap.size (rsC (runP (k : Nat) T (muBegin k U)).1.e (runP (k : Nat) T (muBegin k U)).1.n c r) ∧ RA w1.heap.size v3 Op E.1 c r ∧ FrP O w v3) ?_ ?_
      · rintro e v3 ⟨rfl, Op, R', cur', rs, cm, hev3, hOp, b1, b2, ra3, F3⟩
        rw [if_neg (by decide)]
        refine ldR b2 (ans _ _ c r _ v3 Op R' cur' rs cm hev3 hOp b1 rfl ra3 F3 (by rw [er]) (by rw [er]))
      · intro J195 hJ
        have fin : ∀ (v3 : World) (U3 : Mu) (O3 : Nat → Prop) (R' : List Wr) (cur' : Nat → Bk), RStep R R' → Cm D R' cur' → XV dq v3 g' D R' cur' U3 O3 → Gw O2 v2 O3 v3 → E.2 = U3 → J195 0 v3 := fun v3 U3 O3 R' cur' rs cm x3 G3 hE3 => by
          have pt := EV.put (O := O') bq2 nq2 hO22 hlast' x3 G3
          refine hJ 0 v3 ⟨rfl, _, R', cur', rs, cm, by rw [hE3]; exact pt.1, fun b hb => (pt.2.2 b hb).elim (hO2 b) fun h => .inr (by omega), q1v.frp pt.2.1 fun h => (hO2 _ h).elim (nO _ (by omega)) fun h => by omega, r4.frp pt.2.1 nO'2, ?_, Fv.trans' pt.2.1 fun b hb => (hO2 b hb).imp_right fun h => by omega⟩
          rw [er]
          exact ra2.gw pt.2
        rw [join_eq, if_pos (by decide)]
        refine ldI r4 rfl (ifk (fun h0 => ?_) fun h0 => ?_)
        · have h0 : (runP (k : Nat) T (muBegin k U)).1.e = 0 := h0
          rw [if_pos h0] at er
          refine ldP bq2 rfl (xcommit_spec hx2 hR hcm (fun hne => absurd ak2 hne) fun _ v3 O3 R' cur' rs cm x3 G3 => ?_)
          rw [Int.toNat_natCast] at x3
          exact fin v3 _ O3 R' cur' rs cm x3 G3 (by rw [er])
        · have h0 : ¬ (runP (k : Nat) T (muBegin k U)).1.e = 0 := h0
          rw [if_neg h0] at er
          dsimp only
          rw [if_pos (by decide)]
          refine ldP bq2 rfl (xroll_spec hx2 (fun hne => absurd ak2 hne) fun _ v3 O3 x3 G3 => ?_)
          rw [Int.toNat_natCast] at x3
          exact fin v3 _ O3 R cur rs0 hcm x3 G3 (by rw [er])
end Go.Proofs.Qxb6500564aGreat
