/-
  Exec: the model's, whole.
-/
import Derived.Test.Qxb6500564aGreatRaB
namespace Go.Proofs.Qxb6500564aGreat
open Go.Den Go.Zip
set_option linter.unusedVariables false
set_option linter.unusedSimpArgs false
variable {w w' w3 u v : World} {i j k n a b b0 q g d p h0 p1 p2 p3 : Nat} {nm n0 text : ByteArray} {T : Smt} {M : Mst} {z : Nat → Sl} {U U' : Mu} {O O' O1 O1' Op : Nat → Prop} {t tq : Tb} {s : Int} {A : Rz}

set_option maxHeartbeats 16000000 in
theorem mexec_spec {K : Int → Int → Sl → Sl → World → Prop} (he : QV w q U O) (ok : UOk U)
    (hK : ∀ w' O' c r, QV w' q (exP s text U).2 O' → RA w.heap.size w' O' (exP s text U).1 c r → Gw O w O' w' → K (exP s text U).1.e (exP s text U).1.n c r w') : S.querym_Engine_Exec q s text w K := by
  unfold S.querym_Engine_Exec
  refine newB fun w1 q1 f1 z1 => ?_
  have q1 : Blk w1 w.heap.size (rsC 0 0 nilS nilS) := q1
  have hl1 := q1.lt
  have nO : ∀ b, w.heap.size ≤ b → ¬ O b := fun b h1 h2 => by have := he.lt h2; omega
  generalize hE : exP s text U = E at hK
  have ans : ∀ (e n : Int) (c r : Sl) (vs : List Value) (u : World) (Op : Nat → Prop), QV u q E.2 Op → (∀ b, Op b → O b ∨ w1.heap.size ≤ b) → Blk u w.heap.size vs → vs.length = 4 → RA w1.heap.size u Op E.1 c r → FrP O w u → e = E.1.e → n = E.1.n →
      (St1 u ⟨w.heap.size, 0, none⟩ (.int .i64 e) fun w_1 => St1 w_1 ⟨w.heap.size, 1, none⟩ (.int .i64 n) fun w_1 => St1 w_1 ⟨w.heap.size, 2, none⟩ (.slice c.a c.l c.c) fun w_1 => St1 w_1 ⟨w.heap.size, 3, none⟩ (.slice r.a r.l r.c) fun w_1 =>
        LdI .i64 w_1 ⟨w.heap.size, 0, none⟩ fun Err_4 => LdI .i64 w_1 ⟨w.heap.size, 1, none⟩ fun N_5 => LdS w_1 ⟨w.heap.size, 2, none⟩ fun Cols_6 => LdS w_1 ⟨w.heap.size, 3, none⟩ fun Rows_7 => K Err_4 N_5 Cols_6 Rows_7 w_1) := fun e n c r vs u Op hev hOp bu hvl ra F he hn => by
    subst he; subst hn
    refine stR (c := c) (r := r) bu hvl fun u2 b2 k2 => ldR b2 ?_
    have k2' : FrP (fun b => b = w.heap.size) u u2 := FrP.of k2 fun b h1 h2 => by omega
    refine hK u2 Op c r (hev.frp k2' fun b hb e => ?_) (((ra.plus (p := w.heap.size) hl1).keep k2' (fun b hb => .inl (.inr hb)) fun b hb => .inl (.inl hb)).low (by omega)) ⟨F.trans' k2' fun b hb => .inr (by omega), fun b hb => (hOp b hb).imp_right fun h => by omega⟩
    subst e
    rcases hOp _ hb with h | h
    · exact nO _ (by omega) h
    · omega
  have err : ∀ (e : Int) (u : World) (Op : Nat → Prop), QV u q E.2 Op → (∀ b, Op b → O b ∨ w1.heap.size ≤ b) → Blk u w.heap.size (rsC 0 0 nilS nilS) → E.1 = errZ e → FrP O w u →
      S.querym_fail e u (fun Err_22 N_23 Cols_24 Rows_25 w_1 =>
        St1 w_1 ⟨w.heap.size, 0, none⟩ (.int .i64 Err_22) fun w_1 => St1 w_1 ⟨w.heap.size, 1, none⟩ (.int .i64 N_23) fun w_1 => St1 w_1 ⟨w.heap.size, 2, none⟩ (.slice Cols_24.a Cols_24.l Cols_24.c) fun w_1 => St1 w_1 ⟨w.heap.size, 3, none⟩ (.slice Rows_25.a Rows_25.l Rows_25.c) fun w_1 =>
        LdI .i64 w_1 ⟨w.heap.size, 0, none⟩ fun Err_26 => LdI .i64 w_1 ⟨w.heap.size, 1, none⟩ fun N_27 => LdS w_1 ⟨w.heap.size, 2, none⟩ fun Cols_28 => LdS w_1 ⟨w.heap.size, 3, none⟩ fun Rows_29 => K Err_26 N_27 Cols_28 Rows_29 w_1) := fun e u Op hev hOp bu hr F => by
    refine mfail_spec fun u2 g2 => ?_
    exact ans e 0 nilS nilS _ u2 Op (hev.fr0 g2) hOp (bu.fr g2 (by omega)) rfl (RA.nil (by rw [hr]; rfl) (by rw [hr]; rfl)) (F.trans (FrP.of0 g2)) (by rw [hr]; rfl) (by rw [hr]; rfl)
  have F1 : FrP O w w1 := FrP.of0 f1
  refine ifd (fun hlong => ?_) fun hlong => ?_
  · have hlong : text.size > 256 := by omega
    have er := exP_long (s := s) (U := U) hlong
    rw [hE] at er
    exact err 24 w1 O (by rw [er]; exact he.fr0 f1) (fun b hb => .inl hb) q1 (by rw [er]) F1
  have hlong : ¬ text.size > 256 := by omega
  refine goodSess_spec ?_
  cases hg : gs s with
  | false =>
    have er := exP_sess (U := U) hlong hg
    rw [hE] at er
    rw [if_pos (by rfl)]
    exact err 20 w1 O (by rw [er]; exact he.fr0 f1) (fun b hb => .inl hb) q1 (by rw [er]) F1
  | true =>
  rw [if_neg (by simp)]
  obtain ⟨k, hk, hs⟩ := gs_nat hg
  subst hs
  refine mparse_spec (by omega) (fun hp a0 a1 a2 a3 a4 a5 a6 a7 a8 a9 a10 a11 u g => ?_) fun T hp u z ml g => ?_
  · have er := exP_bad (U := U) hlong hg hp
    rw [hE] at er
    have hle := g.le
    refine newB fun u1 r1 g1 y1 => any12 r1 rfl fun u2 g2 => ?_
    have gg := (g.trans g1).thenNew g2 hle
    rw [if_pos (by rfl)]
    exact err 22 u2 O (by rw [er]; exact (he.fr0 f1).fr0 gg) (fun b hb => .inl hb) (q1.fr gg (by omega)) (by rw [er]) (F1.trans (FrP.of0 gg))
  have er := exP_st (U := U) hlong hg hp
  rw [hE] at er
  have hT := prs_ok hp
  have hkd := hT.kd
  have hle := g.le
  refine newB fun u1 r1 g1 y1 => st12 (M := toM T) (z := z) r1 rfl fun u2 r2 g2 => ?_
  have gg : Fr 0 0 w1 u2 := (g.trans g1).thenNew g2 hle
  have g02 : Fr 0 0 u u2 := g1.thenNew g2 (Nat.le_refl _)
  have hev := (he.fr0 f1).fr0 gg
  have q1u := q1.fr gg (by omega)
  have oz : ∀ i, i < 4 → OS u2 (z i) (vm [] (toM T) i) (szm i) := fun i hi => OS.fr0 (ml.os i hi) g02
  have Fu : FrP O w u2 := F1.trans (FrP.of0 gg)
  have bz : ∀ i, i < 4 → ∀ b, owns (z i) b → w1.heap.size ≤ b := ml.no
  have nz : ∀ i, i < 4 → ∀ b, owns (z i) b → ¬ O b := fun i hi b hb => nO b (by have := bz i hi b hb; omega)
  have hszu : w1.heap.size ≤ u.heap.size := hle
  have hlt2 := r2.lt
  obtain ⟨d, O1, bq, hx1, nq, hO1⟩ := hev.open_
  rw [if_neg (by simp)]
  refine ldI r2 rfl (ifd (fun h6 => ?_) fun h6 => ?_)
  · have h6 : T.kind ≤ 6 := by
      have h : ((T.kind : Nat) : Int) ≤ 6 := h6
      omega
    refine ldI r2 rfl ?_
    refine join_P (fun e v => ∃ Op, QV v q E.2 Op ∧ (∀ b, Op b → O b ∨ w1.heap.size ≤ b) ∧ Blk v w.heap.size (rsC 0 0 nilS nilS) ∧ FrP O w v ∧ E.1 = errZ e) ?_ ?_
    · rintro e v ⟨Op, h1, h2, h3, h4, h5⟩
      exact err e v Op h1 h2 h3 h5 h4
    intro J hJ
    have same : ∀ (e : Int) (v : World), Fr 0 0 u2 v → E = (errZ e, U) → J e v := fun e v g' hE' => hJ e v ⟨O, by rw [hE']; exact hev.fr0 g', fun b hb => .inl hb, q1u.fr g' (by omega), Fu.trans (FrP.of0 g'), by rw [hE']⟩
    have turn : ∀ (e : Int) (v : World) (U' : Mu) (O1' : Nat → Prop) (u' : World), Fr 0 0 u2 u' → Blk u' q [ptrV d] → MV v d U' O1' → Gw O1 u' O1' v → E = (errZ e, U') → J e v := fun e v U' O1' u' g' bq' x1 G1 hE' => by
      have pt := QV.put (O := O) bq' nq hO1 x1 G1
      have hle' := g'.le
      exact hJ e v ⟨_, by rw [hE']; exact pt.1, fun b hb => (pt.2.2 b hb).imp_right fun h => by omega, (q1u.fr g' (by omega)).frp pt.2.1 (nO _ (by omega)), (Fu.trans (FrP.of0 g')).trans pt.2.1, by rw [hE']⟩
    have gd : Fr 0 0 u2 u2.drew := (Fr.refl 0 0 u2).drew
    refine ifk (fun h => ?_) fun hn1 => ifk (fun h => ?_) fun hn2 => ifk (fun h => ?_) fun hn3 => ifk (fun h => ?_) fun hn4 => ifk (fun h => ?_) fun hn5 => ifk (fun h => ?_) fun hn6 => ?_
    · have h : T.kind = 1 := by
        have h : ((T.kind : Nat) : Int) = 1 := h
        omega
      unfold stP at er
      rw [if_pos h] at er
      refine ldP bq rfl (ubegin_spec hx1 ok (fun hne => ?_) fun h0 v O1' x1 G1 => ?_)
      · rw [if_pos hne] at er
        exact same _ _ (Fr.refl _ _ _) er
      · rw [if_neg (fun h => h h0)] at er
        exact turn _ _ _ _ u2 (Fr.refl _ _ _) bq x1 G1 er
    · have h : T.kind = 2 := by
        have h : ((T.kind : Nat) : Int) = 2 := h
        omega
      unfold stP at er
      rw [if_neg (by omega), if_pos h] at er
      refine ldP bq rfl (ucommit_spec hx1 ok (fun hne => ?_) fun h0 v O1' x1 G1 => ?_)
      · rw [if_pos hne] at er
        exact same _ _ (Fr.refl _ _ _) er
      · rw [if_neg (fun h => h h0)] at er
        exact turn _ _ _ _ u2 (Fr.refl _ _ _) bq x1 G1 er
    · have h : T.kind = 3 := by
        have h : ((T.kind : Nat) : Int) = 3 := h
        omega
      unfold stP at er
      rw [if_neg (by omega), if_neg (by omega), if_pos h] at er
      refine ldP bq rfl (uroll_spec hx1 (fun hne => ?_) fun h0 v O1' x1 G1 => ?_)
      · rw [if_pos hne] at er
        exact same _ _ (Fr.refl _ _ _) er
      · rw [if_neg (fun h => h h0)] at er
        exact turn _ _ _ _ u2 (Fr.refl _ _ _) bq x1 G1 er
    · have h : T.kind = 4 := by
        have h : ((T.kind : Nat) : Int) = 4 := h
        omega
      unfold stP at er
      rw [if_neg (by omega), if_neg (by omega), if_neg (by omega), if_pos h] at er
      unfold ddl at er
      refine drew_ (ldP bq.drew rfl (ldStr r2.drew rfl (ldS r2.drew rfl (ldI r2.drew rfl (ucreate_spec (cs := T.defs) hx1.dr ok (OS.dr (oz 0 (by omega))) (fun b hb h => nz 0 (by omega) b hb ((hO1 b).2 (.inr h))) (fun hne => ?_) fun h0 v O1' x1 G1 => ?_)))))
      · rw [if_pos hne] at er
        exact same _ _ gd er
      · rw [if_neg (fun h => h h0)] at er
        exact turn _ _ _ _ u2.drew gd bq.drew x1 G1 er
    · have h : T.kind = 5 := by
        have h : ((T.kind : Nat) : Int) = 5 := h
        omega
      unfold stP at er
      rw [if_neg (by omega), if_neg (by omega), if_neg (by omega), if_neg (by omega), if_pos h] at er
      unfold ddl at er
      refine drew_ (ldP bq.drew rfl (ldStr r2.drew rfl (udrop_spec hx1.dr ok (fun hne => ?_) fun h0 v O1' x1 G1 => ?_)))
      · rw [if_pos hne] at er
        exact same _ _ gd er
      · rw [if_neg (fun h => h h0)] at er
        exact turn _ _ _ _ u2.drew gd bq.drew x1 G1 er
    · have h : T.kind = 6 := by
        have h : ((T.kind : Nat) : Int) = 6 := h
        omega
      unfold stP at er
      rw [if_neg (by omega), if_neg (by omega), if_neg (by omega), if_neg (by omega), if_neg (by omega), if_pos h] at er
      unfold ddl at er
      refine ld12 r2 (mcreIx_spec hev ok oz hT h (fun hne v x1 g' => ?_) fun h0 v O' x1 G1 => ?_)
      · rw [if_pos hne] at er
        exact same _ _ g' er
      · rw [if_neg (fun h => h h0)] at er
        exact hJ _ v ⟨O', by rw [er]; exact x1, fun b hb => (G1.2 b hb).imp_right fun h => by omega, q1u.frp G1.1 (nO _ (by omega)), Fu.trans G1.1, by rw [er]⟩
    · exfalso
      have h1 : ¬ ((T.kind : Nat) : Int) = 1 := hn1
      have h2 : ¬ ((T.kind : Nat) : Int) = 2 := hn2
      have h3 : ¬ ((T.kind : Nat) : Int) = 3 := hn3
      have h4 : ¬ ((T.kind : Nat) : Int) = 4 := hn4
      have h5 : ¬ ((T.kind : Nat) : Int) = 5 := hn5
      have h6' : ¬ ((T.kind : Nat) : Int) = 6 := hn6
      omega
  · have h7 : 7 ≤ T.kind := by
      have h : ¬ ((T.kind : Nat) : Int) ≤ 6 := h6
      omega
    unfold stP at er
    rw [if_neg (by omega), if_neg (by omega), if_neg (by omega), if_neg (by omega), if_neg (by omega), if_neg (by omega), Int.toNat_natCast] at er
    obtain ⟨sl, mr, hmu, hmO⟩ := hx1
    refine ldP bq rfl ⟨by omega, by omega, hmu.ac hk (let_ ?_)⟩
    have hx1 : MV u2 d U O1 := ⟨sl, mr, hmu, hmO⟩
    cases hact : U.act k with
    | true =>
      rw [if_pos hact] at er
      refine join_W (fun v => v = u2) ?_ fun J hJ => ?_
      · rintro _ rfl
        refine ld12 r2 (mrun_spec (b0 := w1.heap.size) hev ok oz bz nz (by omega) hT h7 rfl hk hact fun v O' c r hv ra hO' F' => ?_)
        refine newB fun v1 r3 g3 y3 => stR (c := c) (r := r) r3 rfl fun v2 r4 g4 => ?_
        have g34 := g3.thenNew g4 (Nat.le_refl _)
        rw [if_neg (by simp)]
        refine ldR r4 (ans _ _ c r _ v2 O' (by rw [er]; exact hv.fr0 g34) (fun b hb => (hO' b hb).imp_right fun h => by omega) ((q1u.frp F' fun h => h.elim (nO _ (by omega)) fun h => by omega).fr g34 (by omega)) rfl (by rw [er]; exact ra.fr0 g34) ((Fu.trans' F' fun b hb => hb.elim .inl fun h => .inr (by omega)).trans (FrP.of0 g34)) (by rw [er]) (by rw [er]))
      · rw [if_neg (by simp)]
        exact hJ _ rfl
    | false =>
      rw [if_neg (by rw [hact]; simp)] at er
      unfold ownP at er
      rw [Int.toNat_natCast] at er
      have ak := (ask_of (U := U) (s := (k : Nat)) rfl hk).2.2 hact
      have ok1 := ok.begin hk hact
      have ha1 : (muBegin k U).act k = true := by unfold muBegin; dsimp only; rw [fset_eq]
      refine join_W (fun v => ∃ Op, QV v q (muBegin k U) Op ∧ Gw O u2 Op v) ?_ fun J hJ => ?_
      · rintro v ⟨Op, hv, G⟩
        have ozv : ∀ i, i < 4 → OS v (z i) (vm [] (toM T) i) (szm i) := fun i hi => (oz i hi).frp G.1 (nz i hi)
        have nzv : ∀ i, i < 4 → ∀ b, owns (z i) b → ¬ Op b := fun i hi b hb h => by
          rcases G.2 b h with h | h
          · exact nz i hi b hb h
          · have := OS.lt (oz i hi) hb; omega
        have r2v := r2.frp G.1 (nO _ (by omega))
        have hle2 := G.1.1.1
        have rk := runP_ok (T := T) ok1 hT hk ha1
        refine ld12 r2v (mrun_spec (b0 := w1.heap.size) hv ok1 ozv bz nzv (by omega) hT h7 rfl hk ha1 fun v' O' c r hv' ra hO' F' => ?_)
        refine newB fun v1 r3 g3 y3 => stR (c := c) (r := r) r3 rfl fun v2 r4 g4 => ?_
        have g34 := g3.thenNew g4 (Nat.le_refl _)
        have nOp : ∀ b, w.heap.size ≤ b → b < u2.heap.size → ¬ Op b := fun b h1 h2 h => (G.2 b h).elim (nO b h1) fun h => by omega
        have q1v : Blk v2 w.heap.size (rsC 0 0 nilS nilS) := ((q1u.frp G.1 (nO _ (by omega))).frp F' fun h => h.elim (nOp _ (by omega) (by omega)) fun h => by omega).fr g34 (by omega)
        have Fv : FrP O w v2 := ((Fu.trans G.1).trans' F' fun b hb => hb.elim (fun h => (G.2 b h).elim .inl fun h => .inr (by omega)) fun h => .inr (by omega)).trans (FrP.of0 g34)
        have hO2 : ∀ b, O' b → O b ∨ w1.heap.size ≤ b := fun b hb => (hO' b hb).elim (fun h => (G.2 b h).imp_right fun h => by omega) fun h => .inr (by omega)
        have hv2 := hv'.fr0 g34
        have ra2 := ra.fr0 g34
        have ha2 : (runP (k : Nat) T (muBegin k U)).2.act k = true := by rw [rk.2]; exact ha1
        have ak2 := (ask_of (U := (runP (k : Nat) T (muBegin k U)).2) (s := (k : Nat)) rfl hk).2.1 ha2
        have hszv : w1.heap.size ≤ v2.heap.size := by have := F'.1.1; have := g34.le; omega
        obtain ⟨d2, O2, bq2, hx2, nq2, hO22⟩ := hv2.open_
        have np2 : v'.heap.size < v2.heap.size := r4.lt
        have nO'2 : ¬ O' v'.heap.size := fun h => by have := hv'.lt h; omega
        have fin : ∀ (v3 : World) (U3 : Mu) (O3 : Nat → Prop), MV v3 d2 U3 O3 → Gw O2 v2 O3 v3 → E.2 = U3 → (LdI .i64 v3 ⟨v'.heap.size, 0, none⟩ fun a => LdI .i64 v3 ⟨v'.heap.size, 1, none⟩ fun b => LdS v3 ⟨v'.heap.size, 2, none⟩ fun c => LdS v3 ⟨v'.heap.size, 3, none⟩ fun d =>
            St1 v3 ⟨w.heap.size, 0, none⟩ (.int .i64 a) fun w_1 => St1 w_1 ⟨w.heap.size, 1, none⟩ (.int .i64 b) fun w_1 => St1 w_1 ⟨w.heap.size, 2, none⟩ (.slice c.a c.l c.c) fun w_1 => St1 w_1 ⟨w.heap.size, 3, none⟩ (.slice d.a d.l d.c) fun w_1 =>
            LdI .i64 w_1 ⟨w.heap.size, 0, none⟩ fun Err_4 => LdI .i64 w_1 ⟨w.heap.size, 1, none⟩ fun N_5 => LdS w_1 ⟨w.heap.size, 2, none⟩ fun Cols_6 => LdS w_1 ⟨w.heap.size, 3, none⟩ fun Rows_7 => K Err_4 N_5 Cols_6 Rows_7 w_1) := fun v3 U3 O3 x3 G3 hE3 => by
          have pt := QV.put (O := O') bq2 nq2 hO22 x3 G3
          refine ldR (r4.frp pt.2.1 nO'2) (ans _ _ c r _ v3 _ (by rw [hE3]; exact pt.1) (fun b hb => (pt.2.2 b hb).elim (hO2 b) fun h => .inr (by omega)) (q1v.frp pt.2.1 fun h => (hO2 _ h).elim (nO _ (by omega)) fun h => by omega) rfl ?_ (Fv.trans' pt.2.1 fun b hb => (hO2 b hb).imp_right fun h => by omega) (by rw [er]) (by rw [er]))
          rw [er]
          exact ra2.gw pt.2
        rw [if_pos (by rfl)]
        refine ldI r4 rfl (ifk (fun h0 => ?_) fun h0 => ?_)
        · have h0 : (runP (k : Nat) T (muBegin k U)).1.e = 0 := h0
          rw [if_pos h0] at er
          refine ldP bq2 rfl (ucommit_spec hx2 rk.1 (fun hne => absurd ak2 hne) fun _ v3 O3 x3 G3 => ?_)
          rw [Int.toNat_natCast] at x3
          exact fin v3 _ O3 x3 G3 (by rw [er])
        · have h0 : ¬ (runP (k : Nat) T (muBegin k U)).1.e = 0 := h0
          rw [if_neg h0] at er
          refine ldP bq2 rfl (uroll_spec hx2 (fun hne => absurd ak2 hne) fun _ v3 O3 x3 G3 => ?_)
          rw [Int.toNat_natCast] at x3
          exact fin v3 _ O3 x3 G3 (by rw [er])
      · rw [if_pos (by rfl)]
        refine ldP bq rfl (ubegin_spec hx1 ok (fun hne => absurd ak hne) fun _ v O1' x1 G1 => ?_)
        rw [Int.toNat_natCast] at x1
        have pt := QV.put (O := O) bq nq hO1 x1 G1
        exact hJ v ⟨_, pt.1, pt.2⟩
end Go.Proofs.Qxb6500564aGreat
