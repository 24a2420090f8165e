/-
  Exec: the model's.
-/
import Derived.Test.Qxb6500564aGreatRaA
namespace Go.Proofs.Qxb6500564aGreat
open Go.Den Go.Zip
set_option linter.unusedVariables false
set_option linter.unusedSimpArgs false
variable {w w' w3 u v : World} {i j k n a b b0 q g d p h0 p1 p2 p3 : Nat} {nm n0 text : ByteArray} {cs : List Cl} {sc hit r c x xs rw_ : Sl} {row : List Vl} {T : Smt} {M : Mst} {z : Nat → Sl} {ss hs : List Sl} {rows hr rws : List (List Vl)} {U U' : Mu} {O O' O1 O1' Op : Nat → Prop} {t tq : Tb} {s : Int} {C1 C2 C3 vs : List Value} {A : Rz}

theorem anySt {K : World → Prop} {v : Value} (h : Blk w q vs) (hl : vs.length = n) (hi : i < n) (hK : ∀ w' vs', Blk w' q vs' → vs'.length = n → Fr q 1 w w' → K w') : St1 w ⟨q, i, none⟩ v K := st1 h (by omega) fun w' h' f' _ => hK w' _ h' (by rw [List.length_set]; exact hl) f'
theorem any12 {K : World → Prop} {v0 v1 v2 v3 v4 v5 v6 v7 v8 v9 v10 v11 : Value} (h : Blk w q vs) (hl : vs.length = 12) (hK : ∀ w', Fr q 1 w w' → K w') :
    St1 w ⟨q, 0, none⟩ v0 fun w => St1 w ⟨q, 1, none⟩ v1 fun w => St1 w ⟨q, 2, none⟩ v2 fun w => St1 w ⟨q, 3, none⟩ v3 fun w => St1 w ⟨q, 4, none⟩ v4 fun w => St1 w ⟨q, 5, none⟩ v5 fun w => St1 w ⟨q, 6, none⟩ v6 fun w => St1 w ⟨q, 7, none⟩ v7 fun w => St1 w ⟨q, 8, none⟩ v8 fun w => St1 w ⟨q, 9, none⟩ v9 fun w => St1 w ⟨q, 10, none⟩ v10 fun w => St1 w ⟨q, 11, none⟩ v11 fun w => K w :=
  anySt h hl (by omega) fun w1 _ h hl f1 => anySt h hl (by omega) fun w2 _ h hl f2 => anySt h hl (by omega) fun w3 _ h hl f3 => anySt h hl (by omega) fun w4 _ h hl f4 => anySt h hl (by omega) fun w5 _ h hl f5 => anySt h hl (by omega) fun w6 _ h hl f6 => anySt h hl (by omega) fun w7 _ h hl f7 => anySt h hl (by omega) fun w8 _ h hl f8 => anySt h hl (by omega) fun w9 _ h hl f9 => anySt h hl (by omega) fun w10 _ h hl f10 => anySt h hl (by omega) fun w11 _ h hl f11 => anySt h hl (by omega) fun w12 _ h hl f12 =>
  hK w12 (((((((((((f1.trans f2).trans f3).trans f4).trans f5).trans f6).trans f7).trans f8).trans f9).trans f10).trans f11).trans f12)
theorem RA.plus (h : RA b0 w O A c r) (hp : p < b0) : RA b0 w (fun b => O b ∨ b = p) A c r := by
  obtain ⟨ss, f1, f2, f3⟩ := h.fr
  refine ⟨h.oc, fun b hb => ⟨(h.cb b hb).1, fun h' => ?_⟩, ss, f1, f2, fun b hb h' => ?_⟩
  · rcases h' with h' | h'
    · exact (h.cb b hb).2 h'
    · have := (h.cb b hb).1; omega
  · rcases h' with h' | h'
    · exact f3 b hb h'
    · have : b0 ≤ b := by
        rcases hb with hb | ⟨x, hx, hb⟩
        · exact f1.ra b hb
        · exact (f1.rb x hx b hb).1
      omega
theorem RA.low {b1 : Nat} (h : RA b0 w O A c r) (hb : b1 ≤ b0) : RA b1 w O A c r := by
  obtain ⟨ss, f1, f2, f3⟩ := h.fr
  exact ⟨h.oc, fun b hb' => ⟨Nat.le_trans hb (h.cb b hb').1, (h.cb b hb').2⟩, ss, f1.low hb, f2, f3⟩
set_option maxHeartbeats 8000000 in
theorem mcreIx_spec {K : Int → World → Prop} (he : QV w q U O) (ok : UOk U) (hz : ∀ i, i < 4 → OS w (z i) (vm [] (toM T) i) (szm i)) (hT : SmOk T) (h6 : T.kind = 6)
    (h1 : alE s U ≠ 0 → ∀ w', QV w' q U O → Fr 0 0 w w' → K (alE s U) w')
    (h2 : alE s U = 0 → ∀ w' O', QV w' q (U0 U (mdIndex T.table (ixC T U) (U.db 0)).2) O' → Gw O w O' w' → K (mdIndex T.table (ixC T U) (U.db 0)).1 w') :
    S.querym_Engine_createIndex q s ((toM T).kind : Nat) (toM T).table (z 0) ((toM T).pk : Nat) (z 1) (z 2) (toM T).star (z 3) (toM T).order (toM T).desc (toM T).hasLim (toM T).lim w K := by
  unfold S.querym_Engine_createIndex
  refine newB fun w1 q1 f1 z1 => ?_
  have q1 : Blk w1 w.heap.size (mC (toM T) z) := q1
  obtain ⟨x, hx⟩ := hT.k6 h6
  have hs9 := hT.n9 (by omega)
  have hle1 := q1.lt
  have fin : ∀ u, Fr 0 0 w u → Blk u w.heap.size (mC (toM T) z) →
      (Drew u fun w_1 => LdP w_1 ⟨q, 0, none⟩ fun m_5 => LdStr w_1 ⟨w.heap.size, 1, none⟩ fun table_6 => S.api_Multi_CreateIndex m_5 s table_6 (ixC T U) w_1 (fun r7 w => K r7 w)) := fun u g b => by
    obtain ⟨d, O1, bq, hx1, nq, hO1⟩ := (he.fr0 g).dr.open_
    refine drew_ (ldP bq rfl (ldStr b.drew rfl (uindex_spec hx1 ok (fun hne => ?_) fun h0 v O1' x1 G1 => ?_)))
    · exact h1 hne _ ((he.fr0 g).dr) g.drew
    · have pt := QV.put (O := O) bq nq hO1 x1 G1
      exact h2 h0 v _ pt.1 ⟨(FrP.of0 g).drew.trans pt.2.1, fun b hb => (pt.2.2 b hb).imp_right fun h => Nat.le_trans g.le h⟩
  refine join_PP (fun (p3 : Nat) (e : Int) (u : World) => Fr 0 0 w u ∧ Blk u w.heap.size (mC (toM T) z) ∧ ((e = 10 ∧ fnB T.table (U.db 0) = none) ∨ (e = 0 ∧ ∃ t sc, fnB T.table (U.db 0) = some t ∧ Blk u p3 (schC T.table sc (t.pk : Nat) t.ix) ∧ OS u sc (colC t.cols) 2))) ?_ ?_
  · rintro p3 e u ⟨g, b, ⟨rfl, hf⟩ | ⟨rfl, t, sc, hf, b3, oc⟩⟩
    · rw [join_eq, if_neg (by decide)]
      have e : ixC T U = -1 := by unfold ixC; rw [hf]
      have := fin u g b
      rw [e] at this
      exact this
    · have okt := (ok.d 0 (by omega)).ok t (fnB_mem hf).1
      unfold TbOk at okt
      have e : ixC T U = coI t.cols x := by unfold ixC; rw [hf, hx]; rfl
      have oz : OS u (z 1) (strC [x]) 1 := by
        have := OS.fr0 (hz 1 (by omega)) g
        have e : vm [] (toM T) 1 = strC [x] := by show strC (T.list ++ _) = _; rw [hs9, hx]; rfl
        rw [e] at this
        exact this
      rw [join_eq, if_pos (by decide)]
      refine drew_ (ldStr b3.drew rfl (ldS b3.drew rfl (ldI b3.drew rfl (ldI b3.drew rfl (ldS b.drew rfl (cellAt (i := 0) (c := 1) (f := fun x : ByteArray => [Value.string x]) (fun _ => rfl) (OS.dr oz) (by omega) (l := [x]) rfl fun g5 us5 hb5 e05 ek5 ho5 => ldStr hb5 e05 (mcolOf_spec (OS.dr oc) (by omega) fun v g2 => ?_)))))))
      have := fin v (g.drew.trans g2) (b.drew.fr g2 (by omega))
      rw [e] at this
      exact this
  · intro J18 hJ
    have qd := q1.drew
    have hevd := (he.fr0 f1).dr
    obtain ⟨d, O1, bq, hx1, nq, hO1⟩ := hevd.open_
    have fd : Fr 0 0 w w1.drew := f1.drew
    have hd2 : w1.drew.heap.size = w1.heap.size := rfl
    refine drew_ (hold_ (ldP bq rfl (hold_ (ldStr qd rfl ⟨uschema_spec hx1 ok (fun hf u g => ?_) fun t hf u qq hqq bc g => ?_, newB fun u r1 g1 y1 => ⟨holdS qd (qd.fr g1 (by omega)), holdS bq (bq.fr g1 (by omega)), uschema_spec (hx1.fr0 g1) ok (fun hf u2 g2 => ?_) fun t hf u2 qq hqq bc g2 => ?_⟩⟩))))
    · have hle := g.le
      refine newB fun u1 r1 g1 y1 => ⟨holdS qd ((qd.fr g (by omega)).fr g1 (by omega)), holdS bq ((bq.fr g (by omega)).fr g1 (by omega)), st4 (s := nilS) r1 rfl fun u2 r2 g2 => ?_⟩
      have gg := (g.trans g1).thenNew g2 (by omega)
      exact hJ _ _ _ ⟨fd.trans gg, qd.fr gg (by omega), .inl ⟨rfl, hf⟩⟩
    · have hle := g.le
      refine newB fun u1 r1 g1 y1 => ⟨holdS qd ((qd.fr g (by omega)).fr g1 (by omega)), holdS bq ((bq.fr g (by omega)).fr g1 (by omega)), st4 (s := fullS qq t.cols.length) r1 rfl fun u2 r2 g2 => ?_⟩
      have hlt := bc.lt
      have gg := (g.trans g1).thenNew g2 (by omega)
      exact hJ _ _ _ ⟨fd.trans gg, qd.fr gg (by omega), .inr ⟨rfl, t, fullS qq t.cols.length, hf, r2, fullOS ((bc.fr g1 (by omega)).fr g2 (by omega))⟩⟩
    · have hle := g1.le
      refine st4 (s := nilS) (r1.fr g2 (by omega)) rfl fun u3 r3 g3 => ?_
      have gg := (g1.trans g2).thenNew g3 (by omega)
      exact hJ _ _ _ ⟨fd.trans gg, qd.fr gg (by omega), .inl ⟨rfl, hf⟩⟩
    · have hle := g1.le
      refine st4 (s := fullS qq t.cols.length) (r1.fr g2 (by omega)) rfl fun u3 r3 g3 => ?_
      have hr := r1.lt
      have gg := (g1.trans g2).thenNew g3 (by omega)
      exact hJ _ _ _ ⟨fd.trans gg, qd.fr gg (by omega), .inr ⟨rfl, t, fullS qq t.cols.length, hf, r3, fullOS (bc.fr g3 (by omega))⟩⟩
end Go.Proofs.Qxb6500564aGreat
