/-
  The model's run.
-/
import Derived.Test.Qxb6500564aGreatQzX
namespace Go.Proofs.Qxb6500564aGreat
open Go.Den Go.Zip
set_option linter.unusedVariables false
set_option linter.unusedSimpArgs false
variable {w w' w3 u v : World} {i j k n a b b0 q g d p h0 p1 p2 p3 : Nat} {nm n0 : ByteArray} {cs : List Cl} {sc hit r c x xs rw_ : Sl} {row : List Vl} {T : Smt} {M : Mst} {z : Nat → Sl} {ss hs : List Sl} {rows hr rws : List (List Vl)} {U U' : Mu} {O O' O1 O1' Op : Nat → Prop} {t tq : Tb} {s : Int} {C1 C2 C3 : List Value}

theorem uschema_spec {K : ByteArray → Sl → Int → Int → Int → World → Prop} (h : MV w d U O) (ok : UOk U)
    (h1 : fnB nm (U.db 0) = none → ∀ w', Fr 0 0 w w' → K ⟨#[]⟩ ⟨none, 0, 0⟩ 0 (-1) 10 w')
    (h2 : ∀ t, fnB nm (U.db 0) = some t → ∀ w' q, w.heap.size ≤ q → Blk w' q (colC t.cols) → Fr 0 0 w w' → K nm (fullS q t.cols.length) t.pk t.ix 0 w') : S.api_DB_SchemaOf d nm w K := by
  obtain ⟨sl, mr, h, hO⟩ := h
  have e := h.eq 0 (by omega)
  rw [← e] at h1 h2
  exact mschema_spec (h.md (k := 0) (by omega)) (ok.md h (by omega)) h1 h2
set_option maxHeartbeats 8000000 in
theorem mrun_spec {K : Int → Int → Sl → Sl → World → Prop} (he : QV w q U O) (ok : UOk U) (hz : ∀ i, i < 4 → OS w (z i) (vm [] (toM T) i) (szm i)) (bz : ∀ i, i < 4 → ∀ b, owns (z i) b → b0 ≤ b) (n0O : ∀ i, i < 4 → ∀ b, owns (z i) b → ¬ O b) (hb0 : b0 ≤ w.heap.size) (hT : SmOk T) (h7 : 7 ≤ T.kind) (hs : s = (k : Nat)) (hk : k < 4) (ha : U.act k = true)
    (hK : ∀ w' O' c r, QV w' q (runP s T U).2 O' → RA b0 w' O' (runP s T U).1 c r → (∀ b, O' b → O b ∨ w.heap.size ≤ b) → FrP (fun b => O b ∨ b0 ≤ b) w w' → K (runP s T U).1.e (runP s T U).1.n c r w') :
    S.querym_Engine_run q s ((toM T).kind : Nat) (toM T).table (z 0) ((toM T).pk : Nat) (z 1) (z 2) (toM T).star (z 3) (toM T).order (toM T).desc (toM T).hasLim (toM T).lim w K := by
  subst hs
  unfold S.querym_Engine_run
  refine newB fun w1 q1 f1 z1 => newB fun w2 q2 f2 z2 => ?_
  have q1 : Blk w1 w.heap.size (mC (toM T) z) := q1
  have q2 : Blk w2 w1.heap.size (rsC 0 0 nilS nilS) := q2
  have f02 : Fr 0 0 w w2 := f1.trans f2
  have q12 := q1.fr f2 (by omega)
  have hl1 := q1.lt
  have hl2 := q2.lt
  have nO : ∀ b, w.heap.size ≤ b → ¬ O b := fun b h1 h2 => by have := he.lt h2; omega
  have nz : ∀ i, i < 4 → ∀ b, owns (z i) b → b < w.heap.size ∧ ¬ O b := fun i hi b hb => ⟨OS.lt (hz i hi) hb, n0O i hi b hb⟩
  -- the end with an answer
  have ans : ∀ (e n : Int) (c r : Sl) (vs : List Value) (u : World) (Op : Nat → Prop), QV u q (runP (k : Nat) T U).2 Op → (∀ b, Op b → O b ∨ w2.heap.size ≤ b) → Blk u w1.heap.size vs → vs.length = 4 → RA b0 u (fun b => Op b ∨ b = w1.heap.size) (runP (k : Nat) T U).1 c r → FrP (fun b => O b ∨ b0 ≤ b) w u → e = (runP (k : Nat) T U).1.e → n = (runP (k : Nat) T U).1.n →
      (St1 u ⟨w1.heap.size, 0, none⟩ (.int .i64 e) fun w => St1 w ⟨w1.heap.size, 1, none⟩ (.int .i64 n) fun w => St1 w ⟨w1.heap.size, 2, none⟩ (.slice c.a c.l c.c) fun w => St1 w ⟨w1.heap.size, 3, none⟩ (.slice r.a r.l r.c) fun w =>
        LdI .i64 w ⟨w1.heap.size, 0, none⟩ fun Err_4 => LdI .i64 w ⟨w1.heap.size, 1, none⟩ fun N_5 => LdS w ⟨w1.heap.size, 2, none⟩ fun Cols_6 => LdS w ⟨w1.heap.size, 3, none⟩ fun Rows_7 => K Err_4 N_5 Cols_6 Rows_7 w) := fun e n c r vs u Op hev hOp bu hvl ra F he hn => by
    subst he; subst hn
    refine stR (c := c) (r := r) bu hvl fun u2 b2 k2 => ldR b2 ?_
    have k2' : FrP (fun b => b = w1.heap.size) u u2 := FrP.of k2 fun b h1 h2 => by omega
    refine hK u2 Op c r (hev.frp k2' fun b hb e => ?_) (ra.keep k2' (fun b hb => .inl (.inr hb)) fun b hb => .inl (.inl hb)) (fun b hb => (hOp b hb).imp_right fun h => by omega) (F.trans' k2' fun b hb => .inr (by omega))
    subst e
    rcases hOp _ hb with h | h
    · exact nO _ (by omega) h
    · omega
  -- an answer without lists
  have bare : ∀ (e n : Int) (vs : List Value) (u : World) (Op : Nat → Prop), QV u q (runP (k : Nat) T U).2 Op → (∀ b, Op b → O b ∨ w2.heap.size ≤ b) → Blk u w1.heap.size vs → vs.length = 4 → (runP (k : Nat) T U).1.cols = [] → (runP (k : Nat) T U).1.rows = [] → FrP (fun b => O b ∨ b0 ≤ b) w u → e = (runP (k : Nat) T U).1.e → n = (runP (k : Nat) T U).1.n →
      (St1 u ⟨w1.heap.size, 0, none⟩ (.int .i64 e) fun w => St1 w ⟨w1.heap.size, 1, none⟩ (.int .i64 n) fun w => St1 w ⟨w1.heap.size, 2, none⟩ (.slice none 0 0) fun w => St1 w ⟨w1.heap.size, 3, none⟩ (.slice none 0 0) fun w =>
        LdI .i64 w ⟨w1.heap.size, 0, none⟩ fun Err_4 => LdI .i64 w ⟨w1.heap.size, 1, none⟩ fun N_5 => LdS w ⟨w1.heap.size, 2, none⟩ fun Cols_6 => LdS w ⟨w1.heap.size, 3, none⟩ fun Rows_7 => K Err_4 N_5 Cols_6 Rows_7 w) := fun e n vs u Op hev hOp bu hvl hc hr F he hn =>
    ans e n nilS nilS vs u Op hev hOp bu hvl (RA.nil hc hr) F he hn
  -- an error
  have err : ∀ (e : Int) (u : World) (Op : Nat → Prop), QV u q (runP (k : Nat) T U).2 Op → (∀ b, Op b → O b ∨ w2.heap.size ≤ b) → Blk u w1.heap.size (rsC 0 0 nilS nilS) → (runP (k : Nat) T U).1 = errZ e → FrP (fun b => O b ∨ b0 ≤ b) w u →
      S.querym_fail e u (fun Err_22 N_23 Cols_24 Rows_25 w =>
        St1 w ⟨w1.heap.size, 0, none⟩ (.int .i64 Err_22) fun w => St1 w ⟨w1.heap.size, 1, none⟩ (.int .i64 N_23) fun w => St1 w ⟨w1.heap.size, 2, none⟩ (.slice Cols_24.a Cols_24.l Cols_24.c) fun w => St1 w ⟨w1.heap.size, 3, none⟩ (.slice Rows_25.a Rows_25.l Rows_25.c) fun w =>
        LdI .i64 w ⟨w1.heap.size, 0, none⟩ fun Err_26 => LdI .i64 w ⟨w1.heap.size, 1, none⟩ fun N_27 => LdS w ⟨w1.heap.size, 2, none⟩ fun Cols_28 => LdS w ⟨w1.heap.size, 3, none⟩ fun Rows_29 => K Err_26 N_27 Cols_28 Rows_29 w) := fun e u Op hev hOp bu hr F => by
    refine mfail_spec fun u2 g2 => ?_
    exact bare e 0 _ u2 Op (hev.fr0 g2) hOp (bu.fr g2 (by omega)) rfl (by rw [hr]; rfl) (by rw [hr]; rfl) (F.trans (FrP.of0 g2)) (by rw [hr]; rfl) (by rw [hr]; rfl)
  have F02 : FrP (fun b => O b ∨ b0 ≤ b) w w2 := FrP.of0 f02
  refine ldI q12 rfl (ifk (fun h => ?_) fun h => ?_)
  · have h7 : T.kind = 7 := by
      have h : ((T.kind : Nat) : Int) = 7 := h
      omega
    have n9 : T.kind ≠ 9 := by omega
    have hs9 := hT.n9 n9
    have elit : vm [] (toM T) 2 = rowC T.lits := by show rowC (T.lits ++ _) = _; rw [hs9]; simp
    obtain ⟨d, O1, bq, hx1, nq, hO1⟩ := (he.fr0 f02).dr.open_
    have o2 : OS w2.drew (z 2) (rowC T.lits) 3 := by
      have := OS.dr (OS.fr0 (hz 2 (by omega)) f02)
      rw [elit] at this
      exact this
    have hn4 := hT.n4
    refine drew_ (ldP bq rfl (ldStr q12.drew rfl (ldS q12.drew rfl (uins_spec (vs := T.lits) hx1 ok o2 (fun b hb h => (nz 2 (by omega) b hb).2 ((hO1 b).2 (.inr h))) hT.ll (by omega) (fun hne => ?_) fun k' i h0 hs' hk' ha' hf v O1' x1 G1 => ?_))))
    · have hne : tkE (k : Nat) T.table 2 U ≠ 0 := hne
      have er := runP_no (s := (k : Nat)) h7 hne
      rw [if_pos (by simp only [bne_iff_ne, ne_eq]; exact hne)]
      exact err _ _ O (by rw [er]; exact ⟨d, O1, bq, hx1, nq, hO1⟩) (fun b hb => .inl hb) q2.drew (by rw [er]; rfl) F02.drew
    · have h0 : tkE (k : Nat) T.table 2 U = 0 := h0
      have hf : fI T.table (U.db 0) = some i := hf
      have ek : k' = k := by omega
      subst ek
      have er := runP_ins (s := (k' : Nat)) h7 h0
      have ei : insA (k' : Nat) T U = mdIns T.table T.lits ((tkU k' i 2 U).db (k' + 1)) := by unfold insA; rw [plc_of hf, Int.toNat_natCast]
      rw [ei, plc_of hf, Int.toNat_natCast] at er
      have pt := QV.put (O := O) bq nq hO1 x1 G1
      have hOp : ∀ b, (b = q ∨ O1' b) → O b ∨ w2.heap.size ≤ b := fun b hb => pt.2.2 b hb
      have bv : Blk v w1.heap.size (rsC 0 0 nilS nilS) := q2.drew.frp pt.2.1 (nO _ (by omega))
      have Fv : FrP (fun b => O b ∨ b0 ≤ b) w v := F02.drew.trans (pt.2.1.mono fun b hb => .inl hb)
      refine ifnk (fun hne => ?_) fun hne => ?_
      · have hne : (mdIns T.table T.lits ((tkU k' i 2 U).db (k' + 1))).1 ≠ 0 := hne
        rw [if_pos hne] at er
        exact err _ _ _ (by rw [er]; exact pt.1) hOp bv (by rw [er]; rfl) Fv
      · have hne : ¬ (mdIns T.table T.lits ((tkU k' i 2 U).db (k' + 1))).1 ≠ 0 := fun h => h hne
        rw [if_neg hne] at er
        exact bare 0 1 _ v _ (by rw [er]; exact pt.1) hOp bv rfl (by rw [er]) (by rw [er]) Fv (by rw [er]) (by rw [er])
  · have hn7 : T.kind ≠ 7 := by
      have h : ¬ ((T.kind : Nat) : Int) = 7 := h
      omega
    refine join_PP (fun (p3 : Nat) (e : Int) (u : World) => QV u q U O ∧ FrP (fun b => O b ∨ b0 ≤ b) w u ∧ w2.heap.size ≤ u.heap.size ∧ ((e = 10 ∧ fnB T.table (U.db 0) = none ∧ Blk u w1.heap.size (rsC 0 0 nilS nilS)) ∨ (e = 0 ∧ ∃ t sc, fnB T.table (U.db 0) = some t ∧ GS w.heap.size w1.heap.size p3 (mC (toM T) z) (rsC 0 0 nilS nilS) (schC T.table sc (t.pk : Nat) t.ix) sc t.cols (toM T) z u ∧ w2.heap.size ≤ p3 ∧ ∀ b, owns sc b → w2.heap.size ≤ b))) ?_ ?_
    · rintro p3 e u ⟨hev, Fu, hsu, ⟨rfl, hf, bu⟩ | ⟨rfl, t, sc, hf, gsu, hp3, hsc⟩⟩
      · have er := runP_none (s := (k : Nat)) hn7 hf
        rw [if_pos (by decide)]
        exact err 10 u O (by rw [er]; exact hev) (fun b hb => .inl hb) bu (by rw [er]) Fu
      · have okt := (ok.d 0 (by omega)).ok t (fnB_mem hf).1
        have okt' := okt
        unfold TbOk at okt'
        have hcl : t.cols.length < 1000 := by have := okt'.2.1; omega
        have n1 := hT.n1
        have n2 := hT.n2
        have n3 := hT.n3
        have n4 := hT.n4
        obtain ⟨i, hfi⟩ := fI_fnB hf
        rw [if_neg (by decide)]
        refine ldStr gsu.b3 rfl (ldS gsu.b3 rfl (ldI gsu.b3 rfl (ldI gsu.b3 rfl (ld12 gsu.b1 (mcheck_spec gsu.oc (by omega) gsu.oz (by omega) (by omega) (by omega) (by omega) hT.k9 hT.n9 fun v g1 => ?_)))))
        have hevv := hev.fr0 g1
        have gsv := gsu.fr0 g1
        have Fv := Fu.trans (FrP.of0 g1)
        have hsv : w2.heap.size ≤ v.heap.size := by have := g1.le; omega
        refine ifnk (fun hc => ?_) fun hc => ?_
        · have hc : chkP t.cols t.pk T ≠ 0 := hc
          have er := runP_chk (s := (k : Nat)) hn7 hf hc
          exact err _ v O (by rw [er]; exact hevv) (fun b hb => .inl hb) gsv.b2 (by rw [er]) Fv
        · have hc : chkP t.cols t.pk T = 0 := hc
          have gd := gsv.dr
          obtain ⟨d, O1, bq, hx1, nq, hO1⟩ := hevv.dr.open_
          refine drew_ (ldP bq rfl (ldStr gd.b1 rfl (ldI gd.b3 rfl (uscan_spec (lov := v0) (hiv := v0) hx1 ok (fun t' ht' => ?_) (fun v2 g2 hne => ?_) fun k' i' tq h0 hs' hk' ha' hf' hq v2 rw_ ss fr2 x2 F2 => ?_))))
          · have ht' : fnB T.table (U.db 0) = some t' := ht'
            rw [hf] at ht'; cases ht'; rfl
          · have hne : tkE (k : Nat) T.table 1 U ≠ 0 := hne
            have er := runP_busy (s := (k : Nat)) hn7 hf hc hne
            rw [if_pos (by simp only [bne_iff_ne, ne_eq]; exact hne)]
            exact err _ v2 O (by rw [er]; exact hevv.dr.fr0 g2) (fun b hb => .inl hb) (gd.fr0 g2).b2 (by rw [er]; rfl) (Fv.drew.trans (FrP.of0 g2))
          · have h0 : tkE (k : Nat) T.table 1 U = 0 := h0
            have hf' : fI T.table (U.db 0) = some i' := hf'
            rw [hfi] at hf'
            cases hf'
            have ek : k' = k := by omega
            subst ek
            have hq : fnB T.table (U.db (seenD k' i (tkU k' i 1 U))) = some tq := hq
            have ok2 : UOk (tkU k' i 1 U) := ok.tk hk ha hfi (by omega)
            have st := seen_tab (s := (k' : Nat)) ok hk hf hq ok2
            have ec : tq.cols = t.cols := sch_c st.2
            have okq := st.1
            have okq' := okq
            unfold TbOk at okq'
            have er := runP_go (s := (k' : Nat)) hn7 hf hc h0
            unfold selP' at er
            rw [hit_of rfl hfi hq, plc_of hfi, Int.toNat_natCast] at er
            have F2O : FrP O v.drew v2 := F2.mono fun b hb => (hO1 b).2 (.inr hb)
            have hev2 : QV v2 q (tkU k' i 1 U) O := ⟨d, O1, bq.frp F2 nq, x2, nq, hO1⟩
            have hOv : ∀ b, O b → b < v.drew.heap.size := fun b hb => hevv.lt hb
            have gs2 : GS w.heap.size w1.heap.size p3 (mC (toM T) z) (rsC 0 0 nilS nilS) (schC T.table sc (t.pk : Nat) t.ix) sc t.cols (toM T) z v2 := gd.frp F2O ⟨nO _ (by omega), nO _ (by omega), nO _ (by omega)⟩ (fun b hb => nO _ (by have := hsc b hb; omega)) fun i hi b hb => (nz i hi b hb).2
            have lz : ∀ i, i < 4 → ∀ b, owns (z i) b → b < v.drew.heap.size := fun i hi b hb => OS.lt (gd.oz i hi) hb
            have lc : ∀ b, owns sc b → b < v.drew.heap.size := fun b hb => OS.lt gd.oc hb
            have lp : w.heap.size < v.drew.heap.size ∧ w1.heap.size < v.drew.heap.size ∧ p3 < v.drew.heap.size := ⟨gd.b1.lt, gd.b2.lt, gd.b3.lt⟩
            have Fv2 : FrP (fun b => O b ∨ b0 ≤ b) w v2 := Fv.drew.trans (F2O.mono fun b hb => .inl hb)
            have hwh := chk_wh hc
            have hlen : ∀ row ∈ tq.rows, row.length = t.cols.length := fun row hrow => by rw [← ec]; exact (okq'.2.2.2.2.2.2.1 row hrow).1.1
            rw [if_neg (by decide)]
            refine join_P (fun hit v3 => ∃ hs, GS w.heap.size w1.heap.size p3 (mC (toM T) z) (rsC 0 0 nilS nilS) (schC T.table sc (t.pk : Nat) t.ix) sc t.cols (toM T) z v3 ∧ FrP (fun b => v.drew.heap.size ≤ b) v2 v3 ∧ FR v.drew.heap.size v3 hit hs (tq.rows.filter (mtP t.cols T.wh))) ?_ fun J159 hJ => mhits gs2 fr2 hlen okq'.2.2.2.2.2.1 hcl hT hwh.2 lp lc lz F2.1.1 fun v3 hit hs g3 F3 fr3 => hJ hit v3 ⟨hs, g3, F3, fr3⟩
            rintro hit v3 ⟨hs, gs3, F3, fr3⟩
            have hev3 : QV v3 q (tkU k' i 1 U) O := hev2.frp F3 fun b hb h => by have := hOv b hb; omega
            have Fv3 : FrP (fun b => O b ∨ b0 ≤ b) w v3 := Fv2.trans' F3 fun b hb => .inr (by
              have h : v.drew.heap.size = v.heap.size := rfl
              omega)
            have hl8 : (tq.rows.filter (mtP t.cols T.wh)).length ≤ 8 := Nat.le_trans (List.length_filter_le _ _) okq'.2.2.2.2.2.1
            have hvd : v.drew.heap.size = v.heap.size := rfl
            refine ldI gs3.b1 rfl (ifk (fun h8 => ?_) fun h8 => ?_)
            · have h8 : T.kind = 8 := by
                have h8 : ((T.kind : Nat) : Int) = 8 := h8
                omega
              have n9 : T.kind ≠ 9 := by omega
              have hs9 := hT.n9 n9
              have on3 : OS v3 (z 1) (strC T.list) 1 := by
                have := gs3.oz 1 (by omega)
                have e : vm [] (toM T) 1 = strC T.list := by show strC (T.list ++ _) = _; rw [hs9]; simp
                rw [e] at this
                exact this
              rw [if_pos h8] at er
              refine ldStr gs3.b3 rfl (ldS gs3.b3 rfl (ldI gs3.b3 rfl (ldI gs3.b3 rfl (ld12 gs3.b1 (mproject_spec fr3 gs3.oc on3 lc (lz 1 (by omega)) hcl (by omega) hl8 (fun row hrow => hlen row (List.mem_filter.1 hrow).1) (chk_names hc) (noC_all (chk_all hc).1).1 hT.st fun v4 c r ss' oc4 fr4 cb4 dj4 F4 => ?_)))))
              have hh : ∀ b, owns hit b → v.heap.size ≤ b := fun b hb => fr3.ra b hb
              have hsz3 : v.heap.size ≤ v3.heap.size := Nat.le_trans F2.1.1 F3.1.1
              refine ans _ _ c r (rsC 0 0 nilS nilS) v4 O (by rw [er]; exact hev3.frp F4 fun b hb h => by have := hh b h; have := hOv b hb; omega) (fun b hb => .inl hb) (gs3.b2.frp F4 fun h => by have := hh _ h; omega) rfl ?_ (Fv3.trans' F4 fun b hb => .inr (by have := hh b hb; omega)) (by rw [er]) (by rw [er])
              rw [er]
              refine ⟨oc4, fun b hb => ?_, ss', fr4.low (by omega), dj4, fun b hb h => ?_⟩
              · rcases cb4 b hb with h | h
                · refine ⟨bz 1 (by omega) b h, fun h' => ?_⟩
                  have h1 := nz 1 (by omega) b h
                  rcases h' with h' | h'
                  · exact h1.2 h'
                  · omega
                · refine ⟨by omega, fun h' => ?_⟩
                  rcases h' with h' | h'
                  · have := hOv b h'; omega
                  · omega
              · have hb' : v3.heap.size ≤ b := by
                  rcases hb with hb | ⟨x, hx, hb⟩
                  · exact fr4.ra b hb
                  · exact (fr4.rb x hx b hb).1
                rcases h with h | h
                · have := hOv b h; omega
                · omega
            · have h8 : T.kind ≠ 8 := by
                have h8 : ¬ ((T.kind : Nat) : Int) = 8 := h8
                omega
              have hkd := hT.kd
              rw [if_neg h8] at er
              have hsz3 : v.heap.size ≤ v3.heap.size := Nat.le_trans F2.1.1 F3.1.1
              refine mchg (h0 := v.drew.heap.size) hev3 ok2 fr3 gs3 hOv ⟨⟨lp.1, nO _ (by omega)⟩, ⟨lp.2.1, nO _ (by omega)⟩, ⟨lp.2.2, nO _ (by omega)⟩⟩ (fun b hb => ⟨lc b hb, nO _ (by have := hsc b hb; omega)⟩) (fun i hi b hb => ⟨lz i hi b hb, (nz i hi b hb).2⟩) hT (by omega) (chk_sets hc hT) ((nodup_rows okq).sublist List.filter_sublist) hl8 (cs_of ok hk ha hfi hf hq) rfl hcl (tk_two rfl hk ha (by rw [tkU1_db]; exact hfi)) fun v4 O4 hev4 hO4 F4 => ?_
              have hK' := hK v4 O4 nilS nilS
              rw [er] at hK'
              exact hK' hev4 (RA.nil rfl rfl) (fun b hb => (hO4 b hb).imp_right fun h => by omega) (Fv3.trans' F4 fun b hb => hb.elim (fun h => .inl (.inl h)) fun h => .inr (h.elim (fun h => by omega) fun h => by omega))
    · intro J179 hJ179
      have qd := q12.drew
      have q2d := q2.drew
      have hevd := (he.fr0 f02).dr
      obtain ⟨d, O1, bq, hx1, nq, hO1⟩ := hevd.open_
      have F2d := F02.drew
      have hzd : ∀ i, i < 4 → OS w2.drew (z i) (vm [] (toM T) i) (szm i) := fun i hi => OS.dr (OS.fr0 (hz i hi) f02)
      have hd2 : w2.drew.heap.size = w2.heap.size := rfl
      have okS : ∀ (t : Tb) (p3 qq : Nat) (u : World), Fr 0 0 w2.drew u → fnB T.table (U.db 0) = some t → Blk u p3 (schC T.table (fullS qq t.cols.length) (t.pk : Nat) t.ix) → Blk u qq (colC t.cols) → w2.heap.size ≤ p3 → w2.heap.size ≤ qq → J179 p3 0 u := fun t p3 qq u g hf b3 bc h3 hq => by
        have hle := g.le
        refine hJ179 _ _ _ ⟨hevd.fr0 g, F2d.trans (FrP.of0 g), by omega, .inr ⟨rfl, t, fullS qq t.cols.length, hf, ⟨qd.fr g (by omega), q2d.fr g (by omega), b3, fullOS bc, fun i hi => OS.fr0 (hzd i hi) g⟩, h3, fun b hb => ?_⟩⟩
        have e : qq = b := by
          unfold owns fullS at hb
          simp only [Option.some.injEq, Addr.mk.injEq] at hb
          exact hb.1
        omega
      have noS : ∀ (p3 : Nat) (u : World), Fr 0 0 w2.drew u → fnB T.table (U.db 0) = none → J179 p3 10 u := fun p3 u g hf => by
        have hle := g.le
        exact hJ179 _ _ _ ⟨hevd.fr0 g, F2d.trans (FrP.of0 g), by omega, .inl ⟨rfl, hf, q2d.fr g (by omega)⟩⟩
      refine drew_ (hold_ (ldP bq rfl (hold_ (ldStr qd rfl ⟨uschema_spec hx1 ok (fun hf u g => ?_) fun t hf u qq hqq bc g => ?_, newB fun u r1 g1 y1 => ⟨holdS qd (qd.fr g1 (by omega)), holdS bq (bq.fr g1 (by omega)), uschema_spec (hx1.fr0 g1) ok (fun hf u2 g2 => ?_) fun t hf u2 qq hqq bc g2 => ?_⟩⟩))))
      · have hle := g.le
        refine newB fun u1 r1 g1 y1 => ⟨holdS qd ((qd.fr g (by omega)).fr g1 (by omega)), holdS bq ((bq.fr g (by omega)).fr g1 (by omega)), st4 (s := nilS) r1 rfl fun u2 r2 g2 => ?_⟩
        exact noS _ _ ((g.trans g1).thenNew g2 (by omega)) hf
      · have hle := g.le
        refine newB fun u1 r1 g1 y1 => ⟨holdS qd ((qd.fr g (by omega)).fr g1 (by omega)), holdS bq ((bq.fr g (by omega)).fr g1 (by omega)), st4 (s := fullS qq t.cols.length) r1 rfl fun u2 r2 g2 => ?_⟩
        have hlt := bc.lt
        exact okS t _ qq _ ((g.trans g1).thenNew g2 (by omega)) hf r2 ((bc.fr g1 (by omega)).fr g2 (by omega)) (by omega) hqq
      · have hle := g1.le
        refine st4 (s := nilS) (r1.fr g2 (by omega)) rfl fun u3 r3 g3 => ?_
        exact noS _ _ ((g1.trans g2).thenNew g3 (by omega)) hf
      · have hle := g1.le
        refine st4 (s := fullS qq t.cols.length) (r1.fr g2 (by omega)) rfl fun u3 r3 g3 => ?_
        have hr := r1.lt
        exact okS t _ qq _ ((g1.trans g2).thenNew g3 (by omega)) hf r3 (bc.fr g3 (by omega)) (by omega) (by omega)
end Go.Proofs.Qxb6500564aGreat
