/-
  The real engine's run.
-/
import Derived.Test.Qxb6500564aGreatQzY
namespace Go.Proofs.Qxb6500564aGreat
open Go.Den Go.Zip
set_option linter.unusedVariables false
set_option linter.unusedSimpArgs false
variable {dq : Nat}
variable {w w' w3 u v : World} {i j k n a b b0 q g d p h0 p1 p2 p3 : Nat} {nm n0 : ByteArray} {cs : List Cl} {sc hit r c x xs rw_ : Sl} {row : List Vl} {T : Smt} {y : Nat → Sl} {ss hs : List Sl} {rows hr rws : List (List Vl)} {D : List Bk} {R : List Wr} {cur : Nat → Bk} {U U' : Mu} {O O' O1 O1' Op : Nat → Prop} {t tq : Tb} {s : Int} {C1 C2 C3 : List Value}

theorem ld13 {K : Int → ByteArray → Sl → Int → Sl → Bool → Sl → Sl → Sl → ByteArray → Bool → Bool → Int → Prop} (h : Blk w q (smC T y)) (hK : K (T.kind : Nat) T.table (y 0) (T.pk : Nat) (y 1) T.star (y 2) (y 3) (y 4) T.order T.desc T.hasLim T.lim) :
    LdI .i64 w ⟨q, 0, none⟩ fun a0 => LdStr w ⟨q, 1, none⟩ fun a1 => LdS w ⟨q, 2, none⟩ fun a2 => LdI .i64 w ⟨q, 3, none⟩ fun a3 => LdS w ⟨q, 4, none⟩ fun a4 => LdB w ⟨q, 5, none⟩ fun a5 => LdS w ⟨q, 6, none⟩ fun a6 => LdS w ⟨q, 7, none⟩ fun a7 => LdS w ⟨q, 8, none⟩ fun a8 => LdStr w ⟨q, 9, none⟩ fun a9 => LdB w ⟨q, 10, none⟩ fun a10 => LdB w ⟨q, 11, none⟩ fun a11 => LdI .i64 w ⟨q, 12, none⟩ fun a12 =>
    K a0 a1 a2 a3 a4 a5 a6 a7 a8 a9 a10 a11 a12 :=
  ldI h rfl (ldStr h rfl (ldS h rfl (ldI h rfl (ldS h rfl (ldB h rfl (ldS h rfl (ldS h rfl (ldS h rfl (ldStr h rfl (ldB h rfl (ldB h rfl (ldI h rfl hK))))))))))))
set_option maxHeartbeats 8000000 in
theorem run_spec {K : Int → Int → Sl → Sl → World → Prop} (he : EV dq w q D R cur U O) (hy : ∀ i, i < 5 → OS w (y i) (vc T i) (sz i)) (by_ : ∀ i, i < 5 → ∀ b, owns (y i) b → b0 ≤ b) (n0O : ∀ i, i < 5 → ∀ b, owns (y i) b → ¬ O b) (hb0 : b0 ≤ w.heap.size) (hT : SmOk T) (h7 : 7 ≤ T.kind) (hs : s = (k : Nat)) (hk : k < 4) (ha : U.act k = true)
    (hK : ∀ w' O' c r, EV dq w' q D R cur (runP s T U).2 O' → RA b0 w' O' (runP s T U).1 c r → (∀ b, O' b → O b ∨ w.heap.size ≤ b) → FrP (fun b => O b ∨ b0 ≤ b) w w' → K (runP s T U).1.e (runP s T U).1.n c r w') :
    S.query_Engine_run q s (T.kind : Nat) T.table (y 0) (T.pk : Nat) (y 1) T.star (y 2) (y 3) (y 4) T.order T.desc T.hasLim T.lim w K := by
  subst hs
  unfold S.query_Engine_run
  have ok := he.ok
  refine newB fun w1 q1 f1 z1 => newB fun w2 q2 f2 z2 => ?_
  have q1 : Blk w1 w.heap.size (smC T y) := q1
  have q2 : Blk w2 w1.heap.size (rsC 0 0 nilS nilS) := q2
  have f02 : Fr 0 0 w w2 := f1.trans f2
  have q12 := q1.fr f2 (by omega)
  have hl1 := q1.lt
  have hl2 := q2.lt
  have nO : ∀ b, w.heap.size ≤ b → ¬ O b := fun b h1 h2 => by have := he.lt h2; omega
  have ny : ∀ i, i < 5 → ∀ b, owns (y i) b → b < w.heap.size ∧ ¬ O b := fun i hi b hb => ⟨OS.lt (hy i hi) hb, n0O i hi b hb⟩
  have ans : ∀ (e n : Int) (c r : Sl) (vs : List Value) (u : World) (Op : Nat → Prop), EV dq u q D R cur (runP (k : Nat) T U).2 Op → (∀ b, Op b → O b ∨ w2.heap.size ≤ b) → Blk u w1.heap.size vs → vs.length = 4 → RA b0 u (fun b => Op b ∨ b = w1.heap.size) (runP (k : Nat) T U).1 c r → FrP (fun b => O b ∨ b0 ≤ b) w u → e = (runP (k : Nat) T U).1.e → n = (runP (k : Nat) T U).1.n →
      (St1 u ⟨w1.heap.size, 0, none⟩ (.int .i64 e) fun w => St1 w ⟨w1.heap.size, 1, none⟩ (.int .i64 n) fun w => St1 w ⟨w1.heap.size, 2, none⟩ (.slice c.a c.l c.c) fun w => St1 w ⟨w1.heap.size, 3, none⟩ (.slice r.a r.l r.c) fun w =>
        LdI .i64 w ⟨w1.heap.size, 0, none⟩ fun Err_4 => LdI .i64 w ⟨w1.heap.size, 1, none⟩ fun N_5 => LdS w ⟨w1.heap.size, 2, none⟩ fun Cols_6 => LdS w ⟨w1.heap.size, 3, none⟩ fun Rows_7 => K Err_4 N_5 Cols_6 Rows_7 w) := fun e n c r vs u Op hev hOp bu hvl ra F he hn => by
    subst he; subst hn
    refine stR (c := c) (r := r) bu hvl fun u2 b2 k2 => ldR b2 ?_
    have k2' : FrP (fun b => b = w1.heap.size) u u2 := FrP.of k2 fun b h1 h2 => by omega
    refine hK u2 Op c r (hev.frp k2' fun b hb e => ?_) (ra.keep k2' (fun b hb => .inl (.inr hb)) fun b hb => .inl (.inl hb)) (fun b hb => (hOp b hb).imp_right fun h => by omega) (F.trans' k2' fun b hb => .inr (by omega))
    subst e
    rcases hOp _ hb with h | h
    · exact nO _ (by omega) h
    · omega
  have bare : ∀ (e n : Int) (vs : List Value) (u : World) (Op : Nat → Prop), EV dq u q D R cur (runP (k : Nat) T U).2 Op → (∀ b, Op b → O b ∨ w2.heap.size ≤ b) → Blk u w1.heap.size vs → vs.length = 4 → (runP (k : Nat) T U).1.cols = [] → (runP (k : Nat) T U).1.rows = [] → FrP (fun b => O b ∨ b0 ≤ b) w u → e = (runP (k : Nat) T U).1.e → n = (runP (k : Nat) T U).1.n →
      (St1 u ⟨w1.heap.size, 0, none⟩ (.int .i64 e) fun w => St1 w ⟨w1.heap.size, 1, none⟩ (.int .i64 n) fun w => St1 w ⟨w1.heap.size, 2, none⟩ (.slice none 0 0) fun w => St1 w ⟨w1.heap.size, 3, none⟩ (.slice none 0 0) fun w =>
        LdI .i64 w ⟨w1.heap.size, 0, none⟩ fun Err_4 => LdI .i64 w ⟨w1.heap.size, 1, none⟩ fun N_5 => LdS w ⟨w1.heap.size, 2, none⟩ fun Cols_6 => LdS w ⟨w1.heap.size, 3, none⟩ fun Rows_7 => K Err_4 N_5 Cols_6 Rows_7 w) := fun e n vs u Op hev hOp bu hvl hc hr F he hn =>
    ans e n nilS nilS vs u Op hev hOp bu hvl (RA.nil hc hr) F he hn
  have err : ∀ (e : Int) (u : World) (Op : Nat → Prop), EV dq u q D R cur (runP (k : Nat) T U).2 Op → (∀ b, Op b → O b ∨ w2.heap.size ≤ b) → Blk u w1.heap.size (rsC 0 0 nilS nilS) → (runP (k : Nat) T U).1 = errZ e → FrP (fun b => O b ∨ b0 ≤ b) w u →
      S.query_fail e u (fun Err_22 N_23 Cols_24 Rows_25 w =>
        St1 w ⟨w1.heap.size, 0, none⟩ (.int .i64 Err_22) fun w => St1 w ⟨w1.heap.size, 1, none⟩ (.int .i64 N_23) fun w => St1 w ⟨w1.heap.size, 2, none⟩ (.slice Cols_24.a Cols_24.l Cols_24.c) fun w => St1 w ⟨w1.heap.size, 3, none⟩ (.slice Rows_25.a Rows_25.l Rows_25.c) fun w =>
        LdI .i64 w ⟨w1.heap.size, 0, none⟩ fun Err_26 => LdI .i64 w ⟨w1.heap.size, 1, none⟩ fun N_27 => LdS w ⟨w1.heap.size, 2, none⟩ fun Cols_28 => LdS w ⟨w1.heap.size, 3, none⟩ fun Rows_29 => K Err_26 N_27 Cols_28 Rows_29 w) := fun e u Op hev hOp bu hr F => by
    refine fail_spec fun u2 g2 => ?_
    exact bare e 0 _ u2 Op (hev.fr0 g2) hOp (bu.fr g2 (by omega)) rfl (by rw [hr]; rfl) (by rw [hr]; rfl) (F.trans (FrP.of0 g2)) (by rw [hr]; rfl) (by rw [hr]; rfl)
  have F02 : FrP (fun b => O b ∨ b0 ≤ b) w w2 := FrP.of0 f02
  refine ldI q12 rfl (ifk (fun h => ?_) fun h => ?_)
  · have h7 : T.kind = 7 := by
      have h : ((T.kind : Nat) : Int) = 7 := h
      omega
    obtain ⟨g, O1, last, bq, hx1, nq, hO1, hlast⟩ := (he.fr0 f02).dr.open_
    have o2 : OS w2.drew (y 1) (rowC T.lits) 3 := OS.dr (OS.fr0 (hy 1 (by omega)) f02)
    have hn4 := hT.n4
    refine drew_ (ldP bq rfl (ldStr q12.drew rfl (ldS q12.drew rfl ?_)))
    unfold S.txn_Mgr_Insert
    refine write_spec (vs := T.lits) hx1 o2 (fun b hb h => (ny 1 (by omega) b hb).2 ((hO1 b).2 (.inr h))) hT.ll (by omega) (fun hne v x1 F1 => ?_) fun k' i h0 hs' hk' ha' hf v O1' x1 G1 => ?_
    · have hne : tkE (k : Nat) T.table 2 U ≠ 0 := hne
      have er := runP_no (s := (k : Nat)) h7 hne
      have pt := EV.put (O := O) bq nq hO1 hlast x1 ⟨F1, fun b hb => .inl hb⟩
      dsimp only
      rw [if_pos (by simp only [bne_iff_ne, ne_eq]; exact hne)]
      exact err _ _ _ (by rw [er]; exact pt.1) (fun b hb => pt.2.2 b hb) (q2.drew.frp pt.2.1 (nO _ (by omega))) (by rw [er]) (F02.drew.trans (pt.2.1.mono fun b hb => .inl hb))
    · have h0 : tkE (k : Nat) T.table 2 U = 0 := h0
      have hf : fI T.table (U.db 0) = some i := hf
      have ek : k' = k := by omega
      subst ek
      have er := runP_ins (s := (k' : Nat)) h7 h0
      have ei : insA (k' : Nat) T U = mdIns T.table T.lits ((tkU k' i 2 U).db (k' + 1)) := by unfold insA; rw [plc_of hf, Int.toNat_natCast]
      rw [ei, plc_of hf, Int.toNat_natCast] at er
      have pt := EV.put (O := O) bq nq hO1 hlast x1 G1
      have hOp : ∀ b, (b = q ∨ O1' b) → O b ∨ w2.heap.size ≤ b := fun b hb => pt.2.2 b hb
      have bv : Blk v w1.heap.size (rsC 0 0 nilS nilS) := q2.drew.frp pt.2.1 (nO _ (by omega))
      have Fv : FrP (fun b => O b ∨ b0 ≤ b) w v := F02.drew.trans (pt.2.1.mono fun b hb => .inl hb)
      dsimp only
      refine ifnk (fun hne => ?_) fun hne => ?_
      · have hne : (mdIns T.table T.lits ((tkU k' i 2 U).db (k' + 1))).1 ≠ 0 := hne
        rw [if_pos hne] at er
        exact err _ _ _ (by rw [er]; exact pt.1) hOp bv (by rw [er]; rfl) Fv
      · have hne : ¬ (mdIns T.table T.lits ((tkU k' i 2 U).db (k' + 1))).1 ≠ 0 := fun h => h hne
        rw [if_neg hne] at er
        exact bare 0 1 _ v _ (by rw [er]; exact pt.1) hOp bv rfl (by rw [er]) (by rw [er]) Fv (by rw [er]) (by rw [er])
  · have hn7 : T.kind ≠ 7 := by
      have h : ¬ ((T.kind : Nat) : Int) = 7 := h
      omega
    refine join_PP (fun (p3 : Nat) (e : Int) (u : World) => EV dq u q D R cur U O ∧ FrP (fun b => O b ∨ b0 ≤ b) w u ∧ w2.heap.size ≤ u.heap.size ∧ ((e = 10 ∧ fnB T.table (U.db 0) = none ∧ Blk u w1.heap.size (rsC 0 0 nilS nilS)) ∨ (e = 0 ∧ ∃ t sc, fnB T.table (U.db 0) = some t ∧ FS w.heap.size w1.heap.size p3 (smC T y) (rsC 0 0 nilS nilS) (schC T.table sc (t.pk : Nat) t.ix) sc t.cols T y u ∧ w2.heap.size ≤ p3 ∧ ∀ b, owns sc b → w2.heap.size ≤ b))) ?_ ?_
    · rintro p3 e u ⟨hev, Fu, hsu, ⟨rfl, hf, bu⟩ | ⟨rfl, t, sc, hf, gsu, hp3, hsc⟩⟩
      · have er := runP_none (s := (k : Nat)) hn7 hf
        rw [join_eq, if_neg (by decide)]
        dsimp only
        rw [if_pos (by decide)]
        exact err 10 u O (by rw [er]; exact hev) (fun b hb => .inl hb) bu (by rw [er]) Fu
      · have okt := (ok.d 0 (by omega)).ok t (fnB_mem hf).1
        have okt' := okt
        unfold TbOk at okt'
        have hcl : t.cols.length < 1000 := by have := okt'.2.1; omega
        have n1 := hT.n1
        have n2 := hT.n2
        have n3 := hT.n3
        obtain ⟨i, hfi⟩ := fI_fnB hf
        rw [join_eq, if_pos (by decide)]
        refine ldStr gsu.b3 rfl (ldS gsu.b3 rfl (ldI gsu.b3 rfl (ldI gsu.b3 rfl (ld13 gsu.b1 (check_spec gsu.oc (by omega) gsu.oy (by omega) (by omega) (by omega) fun v g1 => ?_)))))
        have hevv := hev.fr0 g1
        have gsv := gsu.fr0 g1
        have Fv := Fu.trans (FrP.of0 g1)
        have hsv : w2.heap.size ≤ v.heap.size := by have := g1.le; omega
        refine ifnk (fun hc => ?_) fun hc => ?_
        · have hc : chkP t.cols t.pk T ≠ 0 := hc
          have er := runP_chk (s := (k : Nat)) hn7 hf hc
          exact err _ v O (by rw [er]; exact hevv) (fun b hb => .inl hb) gsv.b2 (by rw [er]) Fv
        · have hc : chkP t.cols t.pk T = 0 := hc
          have hwh := chk_wh hc
          have hOv : ∀ b, O b → b < v.heap.size := fun b hb => hevv.lt hb
          have lc0 : ∀ b, owns sc b → ¬ O b := fun b hb => nO _ (by have := hsc b hb; omega)
          refine ldStr gsv.b3 rfl (ldS gsv.b3 rfl (ldI gsv.b3 rfl (ldI gsv.b3 rfl (ld13 gsv.b1 (qfetch_spec hevv hf gsv.oc gsv.oy lc0 (fun i hi b hb => (ny i hi b hb).2) hT hwh.1 hwh.2 (tk_two rfl hk ha hfi) fun v3 hit ss out e U' fta frf hev3 F3 => ?_)))))
          have gs3 : FS w.heap.size w1.heap.size p3 (smC T y) (rsC 0 0 nilS nilS) (schC T.table sc (t.pk : Nat) t.ix) sc t.cols T y v3 := gsv.frp F3 ⟨nO _ (by omega), nO _ (by omega), nO _ (by omega)⟩ lc0 fun i hi b hb => (ny i hi b hb).2
          have Fv3 : FrP (fun b => O b ∨ b0 ≤ b) w v3 := Fv.trans (F3.mono fun b hb => .inl hb)
          rcases fta with ⟨h21, rfl, rfl⟩ | ⟨h0, rfl, k', i', tq, hs', hk', ha', hf', rfl, hq, okq, ec, rfl⟩
          · have er := runP_busy (s := (k : Nat)) hn7 hf hc (by rw [h21]; decide)
            rw [if_pos (by decide)]
            exact err _ v3 O (by rw [er]; exact hev3) (fun b hb => .inl hb) gs3.b2 (by rw [er, h21]) Fv3
          · rw [hfi] at hf'
            cases hf'
            have ek : k' = k := by omega
            subst ek
            have okq' := okq
            unfold TbOk at okq'
            have er := runP_go (s := (k' : Nat)) hn7 hf hc h0
            unfold selP' at er
            rw [hit_of rfl hfi hq, plc_of hfi, Int.toNat_natCast] at er
            have fr3 := frf rfl
            have ly : ∀ i, i < 5 → ∀ b, owns (y i) b → b < v.heap.size := fun i hi b hb => OS.lt (gsv.oy i hi) hb
            have lc : ∀ b, owns sc b → b < v.heap.size := fun b hb => OS.lt gsv.oc hb
            have hlen : ∀ row ∈ tq.rows, row.length = t.cols.length := fun row hrow => by rw [← ec]; exact (okq'.2.2.2.2.2.2.1 row hrow).1.1
            have hl8 : (tq.rows.filter (mtP t.cols T.wh)).length ≤ 8 := Nat.le_trans (List.length_filter_le _ _) okq'.2.2.2.2.2.1
            have hsz3 : v.heap.size ≤ v3.heap.size := F3.1.1
            rw [if_neg (by decide)]
            refine ldI gs3.b1 rfl (ifk (fun h8 => ?_) fun h8 => ?_)
            · have h8 : T.kind = 8 := by
                have h8 : ((T.kind : Nat) : Int) = 8 := h8
                omega
              rw [if_pos h8] at er
              refine ldStr gs3.b3 rfl (ldS gs3.b3 rfl (ldI gs3.b3 rfl (ldI gs3.b3 rfl (ld13 gs3.b1 (project_spec fr3 gs3.oc (gs3.oy 2 (by omega)) lc (ly 2 (by omega)) (fun b hb h => by have := hsc b hb; have := (ny 2 (by omega) b h).1; omega) hcl (by omega) hl8 (fun row hrow => hlen row (List.mem_filter.1 hrow).1) (chk_names hc) (noC_all (chk_all hc).1).1 fun v4 c r ss' oc4 fr4 cb4 dj4 F4 => ?_)))))
              have hh : ∀ b, (owns hit b ∨ owns (y 2) b) → v.heap.size ≤ b ∨ (owns (y 2) b ∧ b0 ≤ b ∧ b < w.heap.size ∧ ¬ O b) := fun b hb => hb.elim (fun h => .inl (fr3.ra b h)) fun h => .inr ⟨h, by_ 2 (by omega) b h, ny 2 (by omega) b h⟩
              have hev4 := hev3.frp F4 fun b hb h => (hh b h).elim (fun h => by have := hOv b hb; omega) fun h => h.2.2.2 hb
              refine ans _ _ c r (rsC 0 0 nilS nilS) v4 O (by rw [er]; exact hev4) (fun b hb => .inl hb) (gs3.b2.frp F4 fun h => by rcases hh _ h with h | h <;> omega) rfl ?_ (Fv3.trans' F4 fun b hb => (hh b hb).elim (fun h => .inr (by omega)) fun h => .inl (.inr h.2.1)) (by rw [er]) (by rw [er])
              rw [er]
              refine ⟨oc4, fun b hb => ?_, ss', fr4.low (by omega), dj4, fun b hb h => ?_⟩
              · rcases cb4 b hb with h | h
                · refine ⟨by_ 2 (by omega) b h, fun h' => ?_⟩
                  have h1 := ny 2 (by omega) b h
                  rcases h' with h' | h'
                  · exact h1.2 h'
                  · omega
                · refine ⟨by omega, fun h' => ?_⟩
                  rcases h' with h' | h'
                  · have := hOv b h'; omega
                  · omega
              · have hb' : v3.heap.size ≤ b := by
                  rcases hb with hb | ⟨x, hx, hb⟩
                  · exact fr4.ra b hb
                  · exact (fr4.rb x hx b hb).1
                rcases h with h | h
                · have := hOv b h; omega
                · omega
            · have h8 : T.kind ≠ 8 := by
                have h8 : ¬ ((T.kind : Nat) : Int) = 8 := h8
                omega
              rw [if_neg h8] at er
              have hp2 := gs3.b2.lt
              refine ldStr gs3.b3 rfl (ldS gs3.b3 rfl (ldI gs3.b3 rfl (ldI gs3.b3 rfl (ld13 gs3.b1 (change_spec (h0 := v.heap.size) hev3 fr3 gs3.oc gs3.oy hOv (fun b hb => ⟨lc b hb, lc0 b hb⟩) (fun i hi b hb => ⟨ly i hi b hb, (ny i hi b hb).2⟩) hT (chk_sets hc hT) ((nodup_rows okq).sublist List.filter_sublist) hl8 (cs_of ok hk ha hfi hf hq) rfl hcl (tk_two rfl hk ha (by rw [tkU1_db]; exact hfi)) fun v4 O4 hev4 hO4 F4 => ?_)))))
              exact bare _ _ _ v4 O4 (by rw [er]; exact hev4) (fun b hb => (hO4 b hb).imp_right fun h => by omega) (gs3.b2.frp F4 fun h => h.elim (nO _ (by omega)) fun h => by omega) rfl (by rw [er]) (by rw [er]) (Fv3.trans' F4 fun b hb => hb.elim (fun h => .inl (.inl h)) fun h => .inr (by omega)) (by rw [er]) (by rw [er])
    · intro J128 hJ
      have qd := q12.drew
      have q2d := q2.drew
      have hevd := (he.fr0 f02).dr
      obtain ⟨g, O1, last, bq, hx1, nq, hO1, hlast⟩ := hevd.open_
      have F2d := F02.drew
      have hyd : ∀ i, i < 5 → OS w2.drew (y i) (vc T i) (sz i) := fun i hi => OS.dr (OS.fr0 (hy i hi) f02)
      have hd2 : w2.drew.heap.size = w2.heap.size := rfl
      have n1O : ∀ b, w.heap.size ≤ b → ¬ O1 b := fun b hb h => nO b hb ((hO1 b).2 (.inr h))
      have ev : ∀ {u : World}, FrP O1 w2.drew u → XV dq u g D R cur U O1 → EV dq u q D R cur U O := fun {u} F x => ⟨g, O1, last, bq.frp F nq, x, nq, hO1, hlast⟩
      have okS : ∀ (t : Tb) (p3 qq : Nat) (u : World), FrP O1 w2.drew u → XV dq u g D R cur U O1 → fnB T.table (U.db 0) = some t → Blk u p3 (schC T.table (fullS qq t.cols.length) (t.pk : Nat) t.ix) → Blk u qq (colC t.cols) → w2.heap.size ≤ p3 → w2.heap.size ≤ qq → J128 p3 0 u := fun t p3 qq u F x hf b3 bc h3 hq => by
        have hle := F.1.1
        refine hJ _ _ _ ⟨ev F x, F2d.trans (F.mono fun b hb => .inl ((hO1 b).2 (.inr hb))), hle, .inr ⟨rfl, t, fullS qq t.cols.length, hf, ⟨qd.frp F (n1O _ (by omega)), q2d.frp F (n1O _ (by omega)), b3, fullOS bc, fun i hi => (hyd i hi).frp F fun b hb h => (ny i hi b hb).2 ((hO1 b).2 (.inr h))⟩, h3, fun b hb => ?_⟩⟩
        have e : qq = b := by
          unfold owns fullS at hb
          simp only [Option.some.injEq, Addr.mk.injEq] at hb
          exact hb.1
        omega
      have noS : ∀ (p3 : Nat) (u : World), FrP O1 w2.drew u → XV dq u g D R cur U O1 → fnB T.table (U.db 0) = none → J128 p3 10 u := fun p3 u F x hf => by
        have hle := F.1.1
        exact hJ _ _ _ ⟨ev F x, F2d.trans (F.mono fun b hb => .inl ((hO1 b).2 (.inr hb))), hle, .inl ⟨rfl, hf, q2d.frp F (n1O _ (by omega))⟩⟩
      have n2 : ∀ {a b : World} {p : Nat}, Fr p 1 a b → w2.heap.size ≤ p → FrP (fun x => w2.heap.size ≤ x) a b := fun {a b p} f h => FrP.of f fun x h1 h2 => by omega
      have nx : ∀ {a b : World} {p : Nat}, Fr p 1 a b → w2.heap.size ≤ p → XV dq a g D R cur U O1 → XV dq b g D R cur U O1 := fun {a b p} f h x => x.frp (n2 f h) fun b hb h' => n1O b (by omega) hb
      refine drew_ (hold_ (ldP bq rfl (hold_ (ldStr qd rfl ⟨xschema_spec hx1 (fun hf u x F => ?_) fun t hf u qq x F hqq bc => ?_, newB fun u r1 g1 y1 => ⟨holdS qd (qd.fr g1 (by omega)), holdS bq (bq.fr g1 (by omega)), xschema_spec (hx1.fr0 g1) (fun hf u2 x2 F2 => ?_) fun t hf u2 qq x2 F2 hqq bc => ?_⟩⟩))))
      · have hle := F.1.1
        refine newB fun u1 r1 g1 y1 => ⟨holdS qd ((qd.frp F (n1O _ (by omega))).fr g1 (by omega)), holdS bq ((bq.frp F nq).fr g1 (by omega)), st4 (s := nilS) r1 rfl fun u2 r2 g2 => ?_⟩
        exact noS _ _ ((F.trans (FrP.of0 g1)).trans' (n2 g2 (by omega)) fun b hb => .inr hb) (nx g2 (by omega) (x.fr0 g1)) hf
      · have hle := F.1.1
        refine newB fun u1 r1 g1 y1 => ⟨holdS qd ((qd.frp F (n1O _ (by omega))).fr g1 (by omega)), holdS bq ((bq.frp F nq).fr g1 (by omega)), st4 (s := fullS qq t.cols.length) r1 rfl fun u2 r2 g2 => ?_⟩
        have hlt := bc.lt
        exact okS t _ qq _ ((F.trans (FrP.of0 g1)).trans' (n2 g2 (by omega)) fun b hb => .inr hb) (nx g2 (by omega) (x.fr0 g1)) hf r2 ((bc.fr g1 (by omega)).fr g2 (by omega)) (by omega) hqq
      · have hle := g1.le
        have hr := r1.lt
        refine st4 (s := nilS) (r1.frp F2 (n1O _ (by omega))) rfl fun u3 r3 g3 => ?_
        exact noS _ _ (((FrP.of0 g1).trans F2).trans' (n2 g3 (by omega)) fun b hb => .inr hb) (nx g3 (by omega) x2) hf
      · have hle := g1.le
        have hr := r1.lt
        refine st4 (s := fullS qq t.cols.length) (r1.frp F2 (n1O _ (by omega))) rfl fun u3 r3 g3 => ?_
        exact okS t _ qq _ (((FrP.of0 g1).trans F2).trans' (n2 g3 (by omega)) fun b hb => .inr hb) (nx g3 (by omega) x2) hf r3 (bc.fr g3 (by omega)) (by omega) (by omega)
end Go.Proofs.Qxb6500564aGreat
