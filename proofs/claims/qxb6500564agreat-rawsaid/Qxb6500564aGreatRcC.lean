/-
  A tower is built or read back.
-/
import Derived.Test.Qxb6500564aGreatRcB
namespace Go.Proofs.Qxb6500564aGreat
open Go.Den Go.Zip
set_option linter.unusedVariables false
set_option linter.unusedSimpArgs false
variable {dq : Nat} {w w' u v : World} {i j k n t f p q g l d : Nat} {D X : List Bk} {R R0 ws : List Wr} {cur cur' : Nat → Bk} {op : Bool} {O Os Ol Od O' : Nat → Prop} {db db2 : Db} {U : Mu}

theorem comR_len (R : List Wr) (h : WsF ws) : (comR R ws).length ≤ R.length + 146 := by
  unfold comR
  split
  · omega
  · rw [List.length_append, comW_len]
    have := h.len
    omega
theorem hld_nil {pg : Nat → List Nat} (c : FCp cur (fset (fun _ => none) 0 (some [])) pg) : Hld cur [] := ⟨_, pg, [], c, dbt_empty, rfl⟩
/-- What building leaves on the disk. -/
structure Blt (X : List Bk) (R0 R : List Wr) (cur : Nat → Bk) (db : Db) : Prop where
  len : R.length ≤ R0.length + 292
  cm : Cm X R cur
  pf : ∃ S, R = R0 ++ S ∧ Pfx (appl X R0) S db
  od : Hld (cmt X R0) db → ∀ n, n < 72 → cur n = cmt X R0 n
set_option maxHeartbeats 1000000 in
/-- Forest and store, opened: formatted where they are not. -/
theorem fmt_spec {K : Nat → Nat → World → Prop} (s : PI dq w p X R0 (cmt X R0) false O) (hR : R0.length ≤ 1000) (h : RdB (cmt X R0) db)
    (hK : ∀ w' f t Os R cur, SV dq w' t X R cur false Os db → Gw O w Os w' → Blt X R0 R cur db → K f t w') : S.btree_Open p w (fun f w => S.table_Open f w fun t w => K f t w) := by
  have dk := s.disk
  have e0 : ∀ n, cmt (appl X R0) [] n = cmt X R0 n := fun n => by rw [← cmt_app, List.append_nil]
  have h1 : RdB (cmt (appl X R0) []) db := h.ext fun n _ => e0 n
  have mk : ∀ {w2 : World} {f t : Nat} {O2 : Nat → Prop} {R : List Wr} {cur : Nat → Bk}, TW dq w2 t f p X R cur false O2 → Gw O w O2 w2 → w.heap.size ≤ f → w.heap.size ≤ t → Hld cur db → Blt X R0 R cur db → K f t w2 := fun {w2 f t O2 R cur} s2 G hf ht hh B => by
    refine hK w2 f t (fun b => b = t ∨ b = f ∨ O2 b) R cur ⟨hh, f, p, O2, s2, fun b => Iff.rfl⟩ ⟨G.1, fun b hb => ?_⟩ B
    rcases hb with rfl | rfl | hb
    · exact .inr ht
    · exact .inr hf
    · exact G.2 b hb
  have self : ∀ n, n < 72 → cmt X R0 n = cmt X R0 n := fun _ _ => rfl
  rcases h with ⟨rfl, hus⟩ | ⟨rfl, fc⟩ | hh
  · refine bopen_new s hus (by omega) fun f w1 O1 ws1 cur1 hw1 s1 fc1 G1 hc1 hf => ?_
    have l1 := comR_len R0 hw1
    refine topen_new s1 fc1 (by omega) fun t w2 O2 ws2 cur2 pg2 hw2 s2 fc2 G2 hc2 ht => ?_
    have l2 := comR_len (comR R0 ws1) hw2
    have hle := G1.1.1
    refine mk s2 (G1.trans G2) hf (Nat.le_trans hle.1 ht) (hld_nil fc2) ⟨by omega, hc2, ⟨comR [] ws1 ++ comR [] ws2, by rw [comR_split, comR_split R0, List.append_assoc], Pfx.app ?_ ?_⟩, fun hh => ?_⟩
    · refine pfx_com dk.1 dk.2.1 hw1 h1 (.inr (.inl ⟨rfl, fc1.ext fun n hn => ?_⟩))
      rw [← cmt_app, ← comR_split]
      exact hc1 n hn
    · have d1 := s1.2.1.disk
      have e1 : appl (appl X R0) (comR [] ws1) = appl X (comR R0 ws1) := by rw [← appl_app, ← comR_split]
      rw [e1]
      have ec : ∀ n, n < 72 → cmt (appl X (comR R0 ws1)) [] n = cur1 n := fun n hn => by rw [← cmt_app, List.append_nil]; exact hc1 n hn
      refine pfx_com d1.1 d1.2.1 hw2 (.inr (.inl ⟨rfl, fc1.ext ec⟩)) (.inr (.inr ((hld_nil fc2).ext fun n hn => ?_)))
      rw [← cmt_app, ← comR_split]
      exact hc2 n hn
    · exfalso
      obtain ⟨T, pg, xs, c, _, _⟩ := hh
      have := c.one
      rw [hus 1] at this
      cases this
  · refine bopen_old s fc.one fun f w1 s1 F1 hf => ?_
    refine topen_new s1 fc (by omega) fun t w2 O2 ws2 cur2 pg2 hw2 s2 fc2 G2 hc2 ht => ?_
    have l2 := comR_len R0 hw2
    have hle := F1.1.1
    refine mk s2 (Gw.trans ⟨F1, fun b hb => .inl hb⟩ G2) hf (Nat.le_trans hle ht) (hld_nil fc2) ⟨by omega, hc2, ⟨comR [] ws2, by rw [comR_split], ?_⟩, fun hh => ?_⟩
    · refine pfx_com dk.1 dk.2.1 hw2 h1 (.inr (.inr ((hld_nil fc2).ext fun n hn => ?_)))
      rw [← cmt_app, ← comR_split]
      exact hc2 n hn
    · exfalso
      obtain ⟨T, pg, xs, c, d, _⟩ := hh
      have h1 := (c.som 0 _ (by omega) d.cat0).1
      exact h1 (fc.non 0 (by omega) rfl).1
  · obtain ⟨T, pg, xs, c, dbt, rfl⟩ := hh
    refine bopen_old s c.one fun f w1 s1 F1 hf => topen_old s1 c dbt.cat0 fun t w2 s2 F2 ht => ?_
    have hle := F1.1.1
    exact mk s2 (Gw.trans ⟨F1, fun b hb => .inl hb⟩ ⟨F2, fun b hb => .inl hb⟩) hf (Nat.le_trans hle ht) ⟨T, pg, xs, c, dbt, rfl⟩ ⟨by omega, fun n _ => rfl, ⟨[], by rw [List.append_nil], Pfx.nil (h1.ext fun n _ => cX_clean dk.2.1 n)⟩, fun _ n _ => rfl⟩
/-- Manager and engine over a store. -/
theorem top_spec {K : Nat → Nat → World → Prop} (sv : SV dq w t X R cur false Os db) (hK : ∀ w' g q O, EV dq w' q X R cur (UC db) O → Gw Os w O w' → K g q w') :
    New w (.cells #[.pointer (some ⟨t, 0, none⟩), .bool false, .bool false, .bool false, .bool false, .bool false, .string ⟨#[]⟩, .int .i64 0, .int .i64 0, .int .i64 0, .int .i64 0, .bool false, .string ⟨#[]⟩, .int .i64 0, .int .i64 0, .int .i64 0, .int .i64 0, .bool false, .string ⟨#[]⟩, .int .i64 0, .int .i64 0, .int .i64 0, .int .i64 0, .slice none 0 0, .slice none 0 0, .slice none 0 0, .slice none 0 0] 142) fun p1 w =>
    New w (.cells #[.pointer (some ⟨p1, 0, none⟩), .int .i64 0] 68) fun p2 w => K p1 p2 w := by
  refine newB fun w1 q1 f1 z1 => newB fun w2 q2 f2 z2 => ?_
  have q1 : Blk w1 w.heap.size (mgC t (fun _ => false) (fun _ => slt0) (fun _ => nilS)) := q1
  have q2 : Blk w2 w1.heap.size [ptrV w.heap.size, .int .i64 ((0 : Nat) : Int)] := q2
  have hl := q1.lt
  have ok := sv.ok
  have nw : ∀ b, ¬ wo nilS [] b := wo_nil
  have gm : GM dq w2 w.heap.size t X R cur false Os db rs0 (fun _ => nilS) (fun _ => []) :=
    ⟨q1.fr f2 (by omega), sv.fr0 (f1.trans f2), fun k _ => WM.nil _, fun k _ => rfl, fun h => by have := sv.lt h; omega, fun k _ => nw _, fun k _ b h => absurd h (nw b), fun k _ l _ _ b h => absurd h (nw b)⟩
  have gno : ∀ b, gw w.heap.size Os (fun _ => nilS) (fun _ => []) b → b = w.heap.size ∨ Os b := fun b hb => by
    rcases hb with h | h | ⟨k, _, h⟩
    · exact .inl h
    · exact .inr h
    · exact absurd h (nw b)
  refine hK w2 w.heap.size w1.heap.size (fun b => b = w1.heap.size ∨ gw w.heap.size Os (fun _ => nilS) (fun _ => []) b) ⟨w.heap.size, gw w.heap.size Os (fun _ => nilS) (fun _ => []), 0, q2, ⟨rs0, ⟨t, Os, _, _, by rw [UC_db]; exact gm, fun b => Iff.rfl⟩, RelU.zero ok, UOk.uc ok⟩, fun h => ?_, fun b => Iff.rfl, by omega⟩ ⟨FrP.of0 (f1.trans f2), fun b hb => ?_⟩
  · rcases gno _ h with h | h
    · omega
    · have := sv.lt h; omega
  · rcases hb with h | h
    · exact .inr (by omega)
    · rcases gno _ h with h | h
      · exact .inr (by omega)
      · exact .inl h
theorem rcR_len (X : List Bk) : (rcR X []).length ≤ 73 := by
  unfold rcR
  split
  · rw [List.nil_append]
    unfold instW instH
    rw [List.length_append, List.length_map, List.length_range]
    have := lgd_le (hd0 (appl X []))
    simp
    omega
  · simp
/-- The whole tower, each layer at hand: built over a fresh disk. -/
theorem new_spec {K : Nat → Nat → Nat → Nat → Nat → Nat → World → Prop} (di : DI w d X [] Od) (hz : byteAt (hd0 X) 0 = 0) (h : Rcv X db)
    (hK : ∀ w' l p f t g q O R cur, EV d w' q X R cur (UC db) O → Gw Od w O w' → Blt X [] R cur db → K l p f t g q w') :
    S.wal_New d w (fun r1 w => S.pager_New r1 w (fun r2 w => S.btree_New r2 w (fun r3 w => S.table_New r3 w (fun r4 w => S.txn_New r4 w (fun r5 w => S.query_New r5 w (fun r6 w => K r1 r2 r3 r4 r5 r6 w)))))) := by
  refine lnew_spec di hz fun w1 l O1 k1 G1 => ?_
  unfold S.pager_New
  refine pempty_spec k1 fun w2 p O2 s2 G2 => ?_
  have h0 : RdB (cmt X []) db := RdB.ext h fun n _ => (cX_clean hz n).symm
  show S.btree_Open p w2 fun f w => S.table_Open f w fun t w => S.txn_New t w fun r5 w => S.query_New r5 w fun r6 w => K l p f t r5 r6 w
  refine fmt_spec s2 (by simp) h0 fun w3 f t Os R cur sv G3 B => ?_
  exact top_spec (K := fun g q w => K l p f t g q w) sv fun w4 g q O ev G4 => hK w4 l p f t g q O R cur ev (((G1.trans G2).trans G3).trans G4) B
/-- The whole tower, read back. -/
theorem old_spec {K : Nat → Nat → Nat → Nat → Nat → Nat → World → Prop} (di : DI w d X [] Od) (h : Rcv X db)
    (hK : ∀ w' l p f t g q O R cur, EV d w' q X R cur (UC db) O → Gw Od w O w' → Blt X (rcR X []) R cur db → K l p f t g q w') :
    S.wal_Open d w (fun r1 w => S.pager_Open r1 w (fun r2 w => S.btree_Open r2 w (fun r3 w => S.table_Open r3 w (fun r4 w => S.txn_Open r4 w (fun r5 w => S.query_Open r5 w (fun r6 w => K r1 r2 r3 r4 r5 r6 w)))))) := by
  have hl := di.nD
  have hrl := rcR_len X
  refine lopen_spec di (by simp) fun w1 l O1 k1 G1 => ?_
  unfold S.pager_Open
  refine pempty_spec k1 fun w2 p O2 s2 G2 => ?_
  have h0 : RdB (cmt X (rcR X [])) db := RdB.ext h fun n _ => cmt_rcv X n
  refine fmt_spec s2 (by omega) h0 fun w3 f t Os R cur sv G3 B => ?_
  exact top_spec (K := fun g q w => K l p f t g q w) sv fun w4 g q O ev G4 => hK w4 l p f t g q O R cur ev (((G1.trans G2).trans G3).trans G4) B
/-- What stands on a disk that was just read back or built. -/
structure Fre (X : List Bk) (R : List Wr) (cur : Nat → Bk) (db : Db) : Prop where
  len : R.length ≤ 1000
  cm : Cm X R cur
  pf : Pfx X R db
  od : Hld (cX X) db → ∀ n, n < 72 → cur n = cX X n
theorem Blt.new (B : Blt X [] R cur db) (hz : byteAt (hd0 X) 0 = 0) (h : Rcv X db) : Fre X R cur db := by
  obtain ⟨S, e, pf⟩ := B.pf
  rw [List.nil_append] at e
  subst e
  refine ⟨by have := B.len; simp at this; omega, B.cm, pf, fun hh n hn => ?_⟩
  rw [cX_clean hz]
  exact B.od (hh.ext fun n _ => (cX_clean hz n).symm) n hn
theorem Blt.old (B : Blt X (rcR X []) R cur db) (hl : X.length = 153) (h : Rcv X db) : Fre X R cur db := by
  obtain ⟨S, e, pf⟩ := B.pf
  subst e
  refine ⟨by have := B.len; have := rcR_len X; omega, B.cm, (pfx_rcv hl h).app pf, fun hh n hn => ?_⟩
  rw [← cmt_rcv]
  exact B.od (hh.ext fun n _ => cmt_rcv X n) n hn
theorem towerNew_spec {K : Nat → World → Prop} (di : DI w d X [] Od) (hz : byteAt (hd0 X) 0 = 0) (h : Rcv X db) (hK : ∀ w' q O R cur, EV d w' q X R cur (UC db) O → Gw Od w O w' → Fre X R cur db → K q w') : S.tower_New d w K := by
  unfold S.tower_New
  exact new_spec (K := fun _ _ _ _ _ q w => K q w) di hz h fun w1 l p f t g q O R cur ev G B => hK w1 q O R cur ev G (B.new hz h)
theorem towerOpen_spec {K : Nat → World → Prop} (di : DI w d X [] Od) (h : Rcv X db) (hK : ∀ w' q O R cur, EV d w' q X R cur (UC db) O → Gw Od w O w' → Fre X R cur db → K q w') : S.tower_Open d w K := by
  unfold S.tower_Open
  exact old_spec (K := fun _ _ _ _ _ q w => K q w) di h fun w1 l p f t g q O R cur ev G B => hK w1 q O R cur ev G (B.old di.nD.2.1 h)
theorem box6 {vs : List Value} {a0 a1 a2 a3 a4 a5 : Nat} {K : World → Prop} (h : Blk w q vs) (hl : vs.length = 6) (hK : ∀ w', Blk w' q [ptrV a0, ptrV a1, ptrV a2, ptrV a3, ptrV a4, ptrV a5] → Fr q 1 w w' → K w') :
    St1 w ⟨q, 0, none⟩ (.pointer (some ⟨a0, 0, none⟩)) fun w => St1 w ⟨q, 1, none⟩ (.pointer (some ⟨a1, 0, none⟩)) fun w => St1 w ⟨q, 2, none⟩ (.pointer (some ⟨a2, 0, none⟩)) fun w => St1 w ⟨q, 3, none⟩ (.pointer (some ⟨a3, 0, none⟩)) fun w => St1 w ⟨q, 4, none⟩ (.pointer (some ⟨a4, 0, none⟩)) fun w => St1 w ⟨q, 5, none⟩ (.pointer (some ⟨a5, 0, none⟩)) fun w => K w := by
  match vs, hl with
  | [_, _, _, _, _, _], _ =>
    exact st1 h (by show _ < 6; omega) fun w1 h f1 _ => st1 h (by show _ < 6; omega) fun w2 h f2 _ => st1 h (by show _ < 6; omega) fun w3 h f3 _ => st1 h (by show _ < 6; omega) fun w4 h f4 _ => st1 h (by show _ < 6; omega) fun w5 h f5 _ => st1 h (by show _ < 6; omega) fun w6 h f6 _ => hK w6 h (((((f1.trans f2).trans f3).trans f4).trans f5).trans f6)
theorem boxNew_spec {K : Nat → Nat → Nat → Nat → Nat → Nat → World → Prop} (di : DI w d X [] Od) (hz : byteAt (hd0 X) 0 = 0) (h : Rcv X db) (hK : ∀ w' l p f t g q O R cur, EV d w' q X R cur (UC db) O → Gw Od w O w' → Fre X R cur db → K l p f t g q w') : S.tower_NewBox d w K := by
  unfold S.tower_NewBox
  refine newB fun w1 q1 f1 z1 => ?_
  have hl1 := q1.lt
  have nd : ¬ Od w.heap.size := fun h => by have := di.lt h; omega
  refine new_spec (di.fr0 f1) hz h fun w2 l p f t g q O R cur ev G B => ?_
  have nO : ¬ O w.heap.size := fun h' => by
    rcases G.2 _ h' with h' | h'
    · exact nd h'
    · omega
  refine box6 (q1.frp G.1 nd) rfl fun w3 q3 f3 => ldP q3 rfl (ldP q3 rfl (ldP q3 rfl (ldP q3 rfl (ldP q3 rfl (ldP q3 rfl ?_)))))
  have F3 : FrP (fun b => b = w.heap.size) w2 w3 := FrP.of f3 fun b h1 h2 => by omega
  exact hK w3 l p f t g q O R cur (ev.frp F3 fun b hb e => nO (e ▸ hb)) ⟨((FrP.of0 f1).trans G.1).trans' F3 fun b hb => .inr (by omega), fun b hb => (G.2 b hb).imp_right fun h => by omega⟩ (B.new hz h)
theorem boxOpen_spec {K : Nat → Nat → Nat → Nat → Nat → Nat → World → Prop} (di : DI w d X [] Od) (h : Rcv X db) (hK : ∀ w' l p f t g q O R cur, EV d w' q X R cur (UC db) O → Gw Od w O w' → Fre X R cur db → K l p f t g q w') : S.tower_OpenBox d w K := by
  unfold S.tower_OpenBox
  refine newB fun w1 q1 f1 z1 => ?_
  have hl1 := q1.lt
  have nd : ¬ Od w.heap.size := fun h => by have := di.lt h; omega
  refine old_spec (di.fr0 f1) h fun w2 l p f t g q O R cur ev G B => ?_
  have nO : ¬ O w.heap.size := fun h' => by
    rcases G.2 _ h' with h' | h'
    · exact nd h'
    · omega
  refine box6 (q1.frp G.1 nd) rfl fun w3 q3 f3 => ldP q3 rfl (ldP q3 rfl (ldP q3 rfl (ldP q3 rfl (ldP q3 rfl (ldP q3 rfl ?_)))))
  have F3 : FrP (fun b => b = w.heap.size) w2 w3 := FrP.of f3 fun b h1 h2 => by omega
  exact hK w3 l p f t g q O R cur (ev.frp F3 fun b hb e => nO (e ▸ hb)) ⟨((FrP.of0 f1).trans G.1).trans' F3 fun b hb => .inr (by omega), fun b hb => (G.2 b hb).imp_right fun h => by omega⟩ (B.old di.nD.2.1 h)
end Go.Proofs.Qxb6500564aGreat
