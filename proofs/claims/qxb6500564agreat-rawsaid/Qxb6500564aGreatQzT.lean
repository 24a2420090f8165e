/-
  UPDATE and DELETE: what holds between two changes, on either side.
-/
import Derived.Test.Qxb6500564aGreatQzS
namespace Go.Proofs.Qxb6500564aGreat
open Go.Den Go.Zip
set_option linter.unusedVariables false
set_option linter.unusedSimpArgs false
variable {dq : Nat}
variable {w w' w3 u v : World} {i j k n a b b0 q g d p h0 : Nat} {nm n0 : ByteArray} {cs : List Cl} {sc hit r x xs : Sl} {row : List Vl} {T : Smt} {ss hs : List Sl} {rows hr : List (List Vl)} {D : List Bk} {R R' : List Wr} {cur cur' : Nat → Bk} {U U' : Mu} {O O' O1 O1' Op : Nat → Prop} {t : Tb} {s : Int} {last : Nat}

theorem EV.put (bq : Blk w q [ptrV g, .int .i64 ((last : Nat) : Int)]) (nq : ¬ O1 q) (hO : ∀ b, O b ↔ (b = q ∨ O1 b)) (hl : last ≤ 4) (X : XV dq w' g D R' cur' U' O1') (G : Gw O1 w O1' w') :
    EV dq w' q D R' cur' U' (fun b => b = q ∨ O1' b) ∧ Gw O w (fun b => b = q ∨ O1' b) w' := by
  refine ⟨⟨g, O1', last, bq.frp G.1 nq, X, fun h => ?_, fun b => Iff.rfl, hl⟩, G.1.mono fun b hb => (hO b).2 (.inr hb), fun b hb => ?_⟩
  · rcases G.2 q h with h | h
    · exact nq h
    · have := bq.lt; omega
  · rcases hb with h | h
    · exact .inl ((hO b).2 (.inl h))
    · exact (G.2 b h).elim (fun h => .inl ((hO b).2 (.inr h))) .inr
theorem QV.put (bq : Blk w q [ptrV d]) (nq : ¬ O1 q) (hO : ∀ b, O b ↔ (b = q ∨ O1 b)) (X : MV w' d U' O1') (G : Gw O1 w O1' w') :
    QV w' q U' (fun b => b = q ∨ O1' b) ∧ Gw O w (fun b => b = q ∨ O1' b) w' := by
  refine ⟨⟨d, O1', bq.frp G.1 nq, X, fun h => ?_, fun b => Iff.rfl⟩, G.1.mono fun b hb => (hO b).2 (.inr hb), fun b hb => ?_⟩
  · rcases G.2 q h with h | h
    · exact nq h
    · have := bq.lt; omega
  · rcases hb with h | h
    · exact .inl ((hO b).2 (.inl h))
    · exact (G.2 b h).elim (fun h => .inl ((hO b).2 (.inr h))) .inr
/-- What holds ahead of change p. E: the engine; G: schema, statement and answer in their blocks. -/
structure CI (E : World → Mu → (Nat → Prop) → Prop) (G : World → Prop) (w w3 : World) (U : Mu) (O : Nat → Prop) (h0 : Nat) (hit : Sl) (ss : List Sl) (hr : List (List Vl)) (t : Tb) (T : Smt) (k i : Nat) (s : Int) (p : Nat) (u : World) : Prop where
  ev : ∃ Op, E u (chU t.cols t.pk T k i (hr.take p) U) Op ∧ (∀ b, Op b → O b ∨ w3.heap.size ≤ b)
  cs : CS (chU t.cols t.pk T k i (hr.take p) U) k i T.table t (hr.drop p)
  tk : p = 0 ∨ (tkE s T.table 2 U = 0 ∧ tkE s T.table 2 (chU t.cols t.pk T k i (hr.take p) U) = 0)
  gs : G u
  fr : ∃ rows', FR h0 u hit ss rows' ∧ rows'.length = hr.length ∧ ∀ j, p ≤ j → rows'[j]? = hr[j]?
  F : FrP (fun b => O b ∨ h0 ≤ b) w u
  sz : w3.heap.size ≤ u.heap.size
variable {E : World → Mu → (Nat → Prop) → Prop} {G : World → Prop}
theorem chU_snoc (h : hr[p]? = some row) : chU cs j T k i (hr.take (p + 1)) U = ch1 cs j T k i (chU cs j T k i (hr.take p) U) row := by
  unfold chU
  rw [List.take_add_one, h, List.foldl_append]
  rfl
theorem dropC_at (h : hr[p]? = some row) : hr.drop p = row :: hr.drop (p + 1) := by
  obtain ⟨hl, e⟩ := List.getElem?_eq_some_iff.1 h
  rw [List.drop_eq_getElem_cons hl, e]
theorem CI.one (h : CI E G w w3 U O h0 hit ss hr t T k i s p u) (hrow : hr[p]? = some row) (hnd : hr.Nodup) (hst : ∀ c ∈ T.sets, StOk t.cols t.pk c) :
    (chOp t.cols t.pk T row ((tkU k i 2 (chU t.cols t.pk T k i (hr.take p) U)).db (k + 1))).1 = 0 ∧ CS (chU t.cols t.pk T k i (hr.take (p + 1)) U) k i T.table t (hr.drop (p + 1)) := by
  have c := h.cs
  have e := dropC_at hrow
  rw [e] at c
  rw [chU_snoc hrow]
  refine c.one hst fun hm => ?_
  have hn := hnd.sublist (List.drop_sublist p hr)
  rw [e] at hn
  exact (List.nodup_cons.1 hn).1 hm
theorem CI.next (h : CI E G w w3 U O h0 hit ss hr t T k i s p u) (hrow : hr[p]? = some row) (hnd : hr.Nodup) (hst : ∀ c ∈ T.sets, StOk t.cols t.pk c) (hs : s = (k : Nat)) (htk : tkE s T.table 2 (chU t.cols t.pk T k i (hr.take p) U) = 0)
    (hE : E v (ch1 t.cols t.pk T k i (chU t.cols t.pk T k i (hr.take p) U) row) Op) (hOp : ∀ b, Op b → O b ∨ w3.heap.size ≤ b) (hG : G v) (hfr : ∃ rows', FR h0 v hit ss rows' ∧ rows'.length = hr.length ∧ ∀ j, p + 1 ≤ j → rows'[j]? = hr[j]?) (hF : FrP (fun b => O b ∨ h0 ≤ b) w v) (hsz : w3.heap.size ≤ v.heap.size) :
    CI E G w w3 U O h0 hit ss hr t T k i s (p + 1) v :=
  ⟨⟨Op, by rw [chU_snoc hrow]; exact hE, hOp⟩, (h.one hrow hnd hst).2, .inr ⟨by rcases h.tk with rfl | h' ; exact htk; exact h'.1, by rw [chU_snoc hrow]; exact ch1_keep htk hs h.cs.fi⟩, hG, hfr, hF, hsz⟩
/-- What a row still to be changed is like. -/
theorem CI.rowOk (h : CI E G w w3 U O h0 hit ss hr t T k i s p u) (hrow : hr[p]? = some row) : RwOk t.cols row ∧ t.pk < row.length := by
  have c := h.cs
  rw [dropC_at hrow] at c
  obtain ⟨q, _, _, okq, hsq, hl, _, _⟩ := c.own
  have := row_ok okq (hl row (List.mem_cons_self ..))
  rw [sch_c hsq] at this
  refine ⟨this, ?_⟩
  rw [this.1.1, ← sch_c hsq, ← sch_p hsq]
  exact okq.hpk
theorem made_v {v : Vl} (h : VOk v) : VMade v := ⟨fun e => (h.1 e).1, fun e => h.2 e⟩
end Go.Proofs.Qxb6500564aGreat
