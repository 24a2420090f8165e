/-
  The store: the rows of a scan's hits, fetched.
-/
import Derived.Test.Qxb6500564aGreatTbR
namespace Go.Proofs.Qxb6500564aGreat
open Go.Den Go.Zip
set_option linter.unusedVariables false
set_option linter.unusedSimpArgs false
variable {dq : Nat}
variable {w w' u v : World} {i j n t f p : Nat} {D : List Bk} {R : List Wr} {cur cur' : Nat → Bk} {op : Bool} {O : Nat → Prop} {T : Nat → Option Es} {pg : Nat → List Nat} {xs : List Th} {s r : Sl} {tb : Tb} {k nm : ByteArray} {vs : List Vl} {key : Vl}

theorem reps_nil (m : Nat) : reps [.slice none 0 0] m = List.replicate m (.slice none 0 0) := by
  induction m with
  | zero => rfl
  | succ m ih => show _ :: reps _ m = _; rw [ih, List.replicate_succ]
/-- The row of a hit. -/
def hitR (tb : Tb) (e : ByteArray × ByteArray) : List Vl := (rowBy tb (backP e.1)).getD []
set_option maxHeartbeats 4000000 in
theorem hits_spec {x : Th} {hits : Es} {rh : Sl} {p13 p14 q : Nat} {K : Sl → Int → World → Prop} (Su : TW dq u t f p D R cur op O) (c : FCp cur T pg) (d : DBT T xs) (hx : x ∈ xs) (hd : Blk u p13 x.hd.cells) (sc : Blk u p14 (schC nm (fullS q x.tb.cols.length) x.tb.pk x.tb.ix)) (cl : Blk u q (colC x.tb.cols))
    (n13 : ¬ O p13) (n14 : ¬ O p14) (nq : ¬ O q) (ho : OS u rh (kvC hits) 2) (hown : ∀ b, owns rh b → ¬ O b) (hsz : ∀ e ∈ hits, e.1.size < 1000) (hall : ∀ e ∈ hits, ∃ r, rowBy x.tb (backP e.1) = some r) (hlen : hits.length ≤ 64)
    (hK : ∀ u' qs, TW dq u' t f p D R cur op O → FrP O u u' → RowsIn u.heap.size u' qs (hits.map (hitR x.tb)) → Blk u' u.heap.size (rowsC qs (hits.map (hitR x.tb))) → K (fullS u.heap.size hits.length) 0 u') :
    MkS 61 [.slice none 0 0] 24 u (rh.l : Int) (rh.l : Int) fun l27 w =>
      Join (fun (w : World) => K l27 0 w) fun J28 =>
        LoopP (σ := Int × Unit) (fun st29 w next30 =>
          if (decide (st29.1 < (rh.l : Int))) = true then
            Ix rh.a rh.l st29.1 fun b31 o32 =>
            LdStr w ⟨b31, o32 + Int.toNat st29.1 * 2, none⟩ fun K_33 =>
            S.table_back K_33 w (fun r34 w =>
            LdI .i64 w ⟨p13, 0, none⟩ fun ncols_35 =>
            LdI .i64 w ⟨p13, 1, none⟩ fun pk_36 =>
            LdI .i64 w ⟨p13, 2, none⟩ fun index_37 =>
            LdI .i64 w ⟨p13, 3, none⟩ fun rows_38 =>
            LdI .i64 w ⟨p13, 4, none⟩ fun idx_39 =>
            LdStr w ⟨p14, 0, none⟩ fun Name_40 =>
            LdS w ⟨p14, 1, none⟩ fun Cols_41 =>
            LdI .i64 w ⟨p14, 2, none⟩ fun PK_42 =>
            LdI .i64 w ⟨p14, 3, none⟩ fun Index_43 =>
            S.table_Store_fetch t ncols_35 pk_36 index_37 rows_38 idx_39 Name_40 Cols_41 PK_42 Index_43 r34 w (fun r44 r45 w =>
            Ix l27.a l27.l st29.1 fun b46 o47 =>
            St1 w ⟨b46, o47 + Int.toNat st29.1 * 1, none⟩ (.slice r44.a r44.l r44.c) fun w =>
            if (r45 != 0) = true then
              K ⟨none, 0, 0⟩ 23 w
            else
              Let (W (st29.1 + 1)) fun i_48 =>
              next30 (i_48, ()) w))
          else
            J28 w) (0, ()) w := by
  have hl := kv_l ho
  refine mkS (by omega) (by omega) (by omega) (by omega) fun w1 c1 f1 s1 => ?_
  rw [Int.toNat_natCast, hl, reps_nil] at c1
  rw [Int.toNat_natCast, hl]
  have nL : ¬ O u.heap.size := fun h => by have := Su.2.1.2.1.lt h; omega
  have Olt : ∀ b, O b → b < u.heap.size := fun b hb => Su.2.1.2.1.lt hb
  refine join_W (fun v => ∃ qs, TW dq v t f p D R cur op O ∧ FrP O u v ∧ RowsIn u.heap.size v qs (hits.map (hitR x.tb)) ∧ Blk v u.heap.size (rowsC qs (hits.map (hitR x.tb)))) ?_ ?_
  · rintro v ⟨qs, Sv, Fv, hr, hb⟩
    exact hK v qs Sv Fv hr hb
  · intro J hJ
    refine loopN (fun m st v => ∃ (k : Nat) (qs : List Nat), st = ((k : Int), ()) ∧ k + m = hits.length ∧ TW dq v t f p D R cur op O ∧ FrP O u v ∧ RowsIn u.heap.size v qs ((hits.take k).map (hitR x.tb)) ∧ Blk v u.heap.size (rowsC qs ((hits.take k).map (hitR x.tb)) ++ List.replicate (hits.length - k) (.slice none 0 0)) ∧
        Blk v p13 x.hd.cells ∧ Blk v p14 (schC nm (fullS q x.tb.cols.length) x.tb.pk x.tb.ix) ∧ Blk v q (colC x.tb.cols) ∧ OS v rh (kvC hits) 2 ∧ (∀ q' ∈ qs, q' ≠ u.heap.size)) hits.length
      ⟨0, [], rfl, by omega, Su.fr0 f1, FrP.of0 f1, ⟨rfl, fun i q r h => (by cases h), List.Pairwise.nil⟩, c1, hd.fr f1 (by omega), sc.fr f1 (by omega), cl.fr f1 (by omega), ho.frp (FrP.of0 (P := fun _ => False) f1) fun _ _ h => h, fun q' h => by cases h⟩ ?_
    rintro m _ v ⟨k, qs, rfl, hm, Sv, Fv, hr, hb, hdv, scv, clv, hov, hne⟩ Q hQ
    dsimp only
    refine ifd (fun h1 => ?_) fun h1 => hJ _ ⟨qs, Sv, Fv, ?_, ?_⟩
    · have hk : k < hits.length := by omega
      obtain ⟨e, he⟩ : ∃ e, hits[k]? = some e := ⟨_, List.getElem?_eq_getElem hk⟩
      have hem := List.mem_of_getElem? he
      obtain ⟨r', hr'⟩ := hall e hem
      rw [← hl]
      refine kvKey hov he (back_spec (hsz e hem) (rd5 hdv (rd4 scv (fetch_spec Sv c d hx (fullOS clv) (fun b hb => by rw [full_owns hb]; exact nq) (fun hn => ?_) fun r'' hr2 v1 q1 S1 F1 hq1 rb1 => ?_))))
      · rw [hr'] at hn; cases hn
      · have er : r'' = r' := by rw [hr'] at hr2; exact (Option.some.inj hr2).symm
        subst er
        have lv := Fv.1.1
        have hb1 := hb.frp F1 nL
        have hlen1 : (rowsC qs ((hits.take k).map (hitR x.tb))).length = k := by rw [rowsC_len hr.1, List.length_map, List.length_take]; omega
        have q1ne : q1 ≠ u.heap.size := by have := hb.lt; omega
        rw [show hits.length - k = (hits.length - (k + 1)) + 1 by omega] at hb1
        refine ixF (by omega) (st1 (o := 0 + Int.toNat (k : Int) * 1) hb1 (by rw [Int.toNat_natCast, List.length_append, hlen1, List.length_replicate]; omega) fun v2 c2 f2 _ => ?_)
        have e0 : 0 + Int.toNat (k : Int) * 1 = (rowsC qs ((hits.take k).map (hitR x.tb))).length := by rw [hlen1, Int.toNat_natCast]; omega
        rw [e0, set_mid] at c2
        have et : (hits.take (k + 1)).map (hitR x.tb) = (hits.take k).map (hitR x.tb) ++ [r''] := by
          rw [List.take_add_one, he, Option.toList_some, List.map_append]
          show _ ++ [hitR x.tb e] = _
          unfold hitR
          rw [hr']
          rfl
        have c2' : Blk v2 u.heap.size (rowsC (qs ++ [q1]) ((hits.take (k + 1)).map (hitR x.tb)) ++ List.replicate (hits.length - (k + 1)) (.slice none 0 0)) := by
          rw [et, rowsC_snoc hr.1]
          exact c2
        rw [if_neg (by simp)]
        refine let_ ?_
        rw [W_succ (by omega)]
        have F2 : FrP (fun b => b = u.heap.size) v1 v2 := FrP.of f2 fun b h1 h2 => by omega
        have hr1 : RowsIn u.heap.size v1 qs ((hits.take k).map (hitR x.tb)) := hr.frp F1 fun y h1 _ hO => by have := Olt y hO; omega
        have hr2' : RowsIn u.heap.size v2 (qs ++ [q1]) ((hits.take (k + 1)).map (hitR x.tb)) := by
          rw [et]
          refine RowsIn.snoc ⟨hr1.1, fun i q' r h1 h2 => ⟨(hr1.2.1 i q' r h1 h2).1.frp F2 (hne q' (List.mem_of_getElem? h1)), (hr1.2.1 i q' r h1 h2).2⟩, hr1.2.2⟩ (rb1.frp F2 q1ne) (by omega) fun h => by have := hr.lt h; omega
        have own2 : ∀ b, owns rh b → ¬ b = u.heap.size := fun b hb e => by have := ho.lt hb; omega
        refine hQ (m - 1) _ _ (by omega) ⟨k + 1, qs ++ [q1], rfl, by omega, S1.new F2 Su fun b hb => by omega, (Fv.trans F1).trans' F2 fun b hb => .inr (by omega), hr2', c2', (hdv.frp F1 n13).frp F2 fun h => by have := hd.lt; omega, (scv.frp F1 n14).frp F2 fun h => by have := sc.lt; omega, (clv.frp F1 nq).frp F2 fun h => by have := cl.lt; omega, (hov.frp F1 hown).frp F2 own2, fun q' h => ?_⟩
        rcases List.mem_append.1 h with h | h
        · exact hne q' h
        · rw [List.mem_singleton.1 h]; exact q1ne
    · have e : k = hits.length := by omega
      rw [e, List.take_of_length_le (Nat.le_refl _)] at hr
      exact hr
    · have e : k = hits.length := by omega
      rw [e, List.take_of_length_le (Nat.le_refl _), Nat.sub_self] at hb
      simpa using hb
end Go.Proofs.Qxb6500564aGreat
