/-
  UPDATE's and DELETE's end: the model's.
-/
import Derived.Test.Qxb6500564aGreatQzU
namespace Go.Proofs.Qxb6500564aGreat
open Go.Den Go.Zip
set_option linter.unusedVariables false
set_option linter.unusedSimpArgs false
variable {w w' w3 u v : World} {i j k n a b b0 q g d p h0 p1 p2 p3 : Nat} {nm n0 : ByteArray} {cs : List Cl} {sc hit r x xs : Sl} {row : List Vl} {T : Smt} {M : Mst} {z : Nat → Sl} {ss hs : List Sl} {rows hr : List (List Vl)} {U U' : Mu} {O O' O1 O1' Op : Nat → Prop} {t : Tb} {s : Int} {C1 C2 C3 : List Value}

theorem QV.open_ (h : QV w q U O) : ∃ d O1, Blk w q [ptrV d] ∧ MV w d U O1 ∧ ¬ O1 q ∧ ∀ b, O b ↔ (b = q ∨ O1 b) := h
/-- What stays on the model's side: statement, answer, schema, the statement's lists. -/
structure GS (p1 p2 p3 : Nat) (C1 C2 C3 : List Value) (sc : Sl) (cs : List Cl) (M : Mst) (z : Nat → Sl) (u : World) : Prop where
  b1 : Blk u p1 C1
  b2 : Blk u p2 C2
  b3 : Blk u p3 C3
  oc : OS u sc (colC cs) 2
  oz : ∀ i, i < 4 → OS u (z i) (vm [] M i) (szm i)
theorem GS.frp {P : Nat → Prop} (h : GS p1 p2 p3 C1 C2 C3 sc cs M z u) (F : FrP P u v) (h1 : ¬ P p1 ∧ ¬ P p2 ∧ ¬ P p3) (h2 : ∀ b, owns sc b → ¬ P b) (h3 : ∀ i, i < 4 → ∀ b, owns (z i) b → ¬ P b) : GS p1 p2 p3 C1 C2 C3 sc cs M z v :=
  ⟨h.b1.frp F h1.1, h.b2.frp F h1.2.1, h.b3.frp F h1.2.2, h.oc.frp F h2, fun i hi => (h.oz i hi).frp F (h3 i hi)⟩
theorem GS.fr0 (h : GS p1 p2 p3 C1 C2 C3 sc cs M z u) (F : Fr 0 0 u v) : GS p1 p2 p3 C1 C2 C3 sc cs M z v := h.frp (FrP.of0 (P := fun _ => False) F) ⟨id, id, id⟩ (fun _ _ h => h) fun _ _ _ _ h => h
theorem GS.dr (h : GS p1 p2 p3 C1 C2 C3 sc cs M z u) : GS p1 p2 p3 C1 C2 C3 sc cs M z u.drew := h.fr0 ((Fr.refl 0 0 u).drew)
set_option maxHeartbeats 8000000 in
theorem mchg {K : Int → Int → Sl → Sl → World → Prop} (he : QV w q U O) (ok : UOk U) (fr : FR h0 w hit ss hr) (gs : GS p1 p2 p3 (mC (toM T) z) (rsC 0 0 nilS nilS) (schC n0 sc (t.pk : Nat) t.ix) sc t.cols (toM T) z w) (lO : ∀ b, O b → b < h0) (lp : (p1 < h0 ∧ ¬ O p1) ∧ (p2 < h0 ∧ ¬ O p2) ∧ (p3 < h0 ∧ ¬ O p3)) (lc : ∀ b, owns sc b → b < h0 ∧ ¬ O b) (lz : ∀ i, i < 4 → ∀ b, owns (z i) b → b < h0 ∧ ¬ O b)
    (hT : SmOk T) (hk9 : T.kind = 9 ∨ T.kind = 10) (hst : ∀ c ∈ T.sets, StOk t.cols t.pk c) (hnd : hr.Nodup) (hl8 : hr.length ≤ 8) (hcs : CS U k i T.table t hr) (hs : s = (k : Nat)) (hcl : t.cols.length < 1000) (htk : tkE s T.table 2 U = 0 ∨ tkE s T.table 2 U = 21)
    (hK : ∀ w' O', QV w' q (chA t.cols t.pk T s k i hr U).2.2 O' → (∀ b, O' b → O b ∨ w.heap.size ≤ b) → FrP (fun b => O b ∨ h0 ≤ b ∨ b = p2) w w' → K (chA t.cols t.pk T s k i hr U).1 (chA t.cols t.pk T s k i hr U).2.1 nilS nilS w') :
                Join (fun (w : World) =>
                  St1 w ⟨p2, 0, none⟩ (.int .i64 0) fun w =>
                  St1 w ⟨p2, 1, none⟩ (.int .i64 (hit.l : Int)) fun w =>
                  St1 w ⟨p2, 2, none⟩ (.slice none 0 0) fun w =>
                  St1 w ⟨p2, 3, none⟩ (.slice none 0 0) fun w =>
                  LdI .i64 w ⟨p2, 0, none⟩ fun Err_94 =>
                  LdI .i64 w ⟨p2, 1, none⟩ fun N_95 =>
                  LdS w ⟨p2, 2, none⟩ fun Cols_96 =>
                  LdS w ⟨p2, 3, none⟩ fun Rows_97 =>
                  K Err_94 N_95 Cols_96 Rows_97 w) fun J98 =>
                LoopP (σ := Int × Unit) (fun st99 w next100 =>
                  if (decide (st99.1 < (hit.l : Int))) = true then
                    LdI .i64 w ⟨p1, 0, none⟩ fun kind_101 =>
                    Join (fun (e_102 : Int) (w : World) =>
                      if (e_102 != 0) = true then
                        S.querym_fail e_102 w (fun Err_103 N_104 Cols_105 Rows_106 w =>
                        St1 w ⟨p2, 0, none⟩ (.int .i64 Err_103) fun w =>
                        St1 w ⟨p2, 1, none⟩ (.int .i64 N_104) fun w =>
                        St1 w ⟨p2, 2, none⟩ (.slice Cols_105.a Cols_105.l Cols_105.c) fun w =>
                        St1 w ⟨p2, 3, none⟩ (.slice Rows_106.a Rows_106.l Rows_106.c) fun w =>
                        LdI .i64 w ⟨p2, 0, none⟩ fun Err_107 =>
                        LdI .i64 w ⟨p2, 1, none⟩ fun N_108 =>
                        LdS w ⟨p2, 2, none⟩ fun Cols_109 =>
                        LdS w ⟨p2, 3, none⟩ fun Rows_110 =>
                        K Err_107 N_108 Cols_109 Rows_110 w)
                      else
                        Let (W (st99.1 + 1)) fun i_111 =>
                        next100 (i_111, ()) w) fun J112 =>
                    if (kind_101 == 10) = true then
                      Drew w fun w =>
                      LdP w ⟨q, 0, none⟩ fun m_113 =>
                      LdStr w ⟨p1, 1, none⟩ fun table_114 =>
                      Ix hit.a hit.l st99.1 fun b115 o116 =>
                      LdS w ⟨b115, o116 + Int.toNat st99.1 * 1, none⟩ fun x_117 =>
                      LdI .i64 w ⟨p3, 2, none⟩ fun PK_118 =>
                      Ix x_117.a x_117.l PK_118 fun b119 o120 =>
                      LdB w ⟨b119, o120 + Int.toNat PK_118 * 3, none⟩ fun IsStr_121 =>
                      LdI .i64 w ⟨b119, o120 + Int.toNat PK_118 * 3 + 1, none⟩ fun I_122 =>
                      LdStr w ⟨b119, o120 + Int.toNat PK_118 * 3 + 2, none⟩ fun S_123 =>
                      S.api_Multi_Delete m_113 s table_114 IsStr_121 I_122 S_123 w (fun r124 w =>
                      J112 r124 w)
                    else
                      Join (fun (w : World) =>
                        Drew w fun w =>
                        LdP w ⟨q, 0, none⟩ fun m_125 =>
                        LdStr w ⟨p1, 1, none⟩ fun table_126 =>
                        Ix hit.a hit.l st99.1 fun b127 o128 =>
                        LdS w ⟨b127, o128 + Int.toNat st99.1 * 1, none⟩ fun x_129 =>
                        S.api_Multi_Update m_125 s table_126 x_129 w (fun r130 w =>
                        J112 r130 w)) fun J131 =>
                      LoopP (σ := Int × Unit) (fun st132 w next133 =>
                        LdS w ⟨p1, 4, none⟩ fun names_134 =>
                        if (decide (st132.1 < (names_134.l : Int))) = true then
                          Drew w fun w =>
                          Ix hit.a hit.l st99.1 fun b135 o136 =>
                          Hold w ⟨b135, o136 + Int.toNat st99.1 * 1, none⟩ 1 fun R137 =>
                          LdS w ⟨b135, o136 + Int.toNat st99.1 * 1, none⟩ fun x_138 =>
                          LdStr w ⟨p3, 0, none⟩ fun Name_139 =>
                          LdS w ⟨p3, 1, none⟩ fun Cols_140 =>
                          LdI .i64 w ⟨p3, 2, none⟩ fun PK_141 =>
                          LdI .i64 w ⟨p3, 3, none⟩ fun Index_142 =>
                          LdS w ⟨p1, 4, none⟩ fun names_143 =>
                          Ix names_143.a names_143.l st132.1 fun b144 o145 =>
                          LdStr w ⟨b144, o145 + Int.toNat st132.1 * 1, none⟩ fun x_146 =>
                          Hold w ⟨p1, 5, none⟩ 1 fun R147 =>
                          LdS w ⟨p1, 5, none⟩ fun vals_148 =>
                          Ix vals_148.a vals_148.l st132.1 fun b149 o150 =>
                          Hold w ⟨b149, o150 + Int.toNat st132.1 * 3, none⟩ 3 fun R151 =>
                          LdB w ⟨b149, o150 + Int.toNat st132.1 * 3, none⟩ fun IsStr_152 =>
                          LdI .i64 w ⟨b149, o150 + Int.toNat st132.1 * 3 + 1, none⟩ fun I_153 =>
                          LdStr w ⟨b149, o150 + Int.toNat st132.1 * 3 + 2, none⟩ fun S_154 =>
                          S.querym_colOf Name_139 Cols_140 PK_141 Index_142 x_146 w (fun r155 w =>
                          After R151 w <|
                          After R147 w <|
                          After R137 w <|
                          Ix x_138.a x_138.l r155 fun b156 o157 =>
                          St1 w ⟨b156, o157 + Int.toNat r155 * 3, none⟩ (.bool IsStr_152) fun w =>
                          St1 w ⟨b156, o157 + Int.toNat r155 * 3 + 1, none⟩ (.int .i64 I_153) fun w =>
                          St1 w ⟨b156, o157 + Int.toNat r155 * 3 + 2, none⟩ (.string S_154) fun w =>
                          Let (W (st132.1 + 1)) fun j_158 =>
                          next133 (j_158, ()) w)
                        else
                          J131 w) (0, ()) w
                  else
                    J98 w) (0, ()) w := by
  have hh0 : ∀ b, h0 ≤ b → ¬ O b := fun b h1 h2 => by have := lO b h2; omega
  have h0w : ∀ b, owns hit b → b < w.heap.size := fun b hb => OS.lt fr.arr hb
  have s0w : ∀ x ∈ ss, ∀ b, owns x b → b < w.heap.size := fun x hx b hb => fr.row.lt hx hb
  have keep : ∀ {u v : World} {P : Nat → Prop}, GS p1 p2 p3 (mC (toM T) z) (rsC 0 0 nilS nilS) (schC n0 sc (t.pk : Nat) t.ix) sc t.cols (toM T) z u → FrP P u v → (∀ b, P b → O b ∨ h0 ≤ b ∨ w.heap.size ≤ b) → GS p1 p2 p3 (mC (toM T) z) (rsC 0 0 nilS nilS) (schC n0 sc (t.pk : Nat) t.ix) sc t.cols (toM T) z v := fun {u v P} fs F hP => by
    have big : ∀ b, b < h0 → b < w.heap.size → ¬ O b → ¬ P b := fun b h1 h1' h2 h => by
      rcases hP b h with h | h | h
      · exact h2 h
      · omega
      · omega
    refine fs.frp F ⟨big _ lp.1.1 gs.b1.lt lp.1.2, big _ lp.2.1.1 gs.b2.lt lp.2.1.2, big _ lp.2.2.1 gs.b3.lt lp.2.2.2⟩ (fun b hb => big b (lc b hb).1 (OS.lt gs.oc hb) (lc b hb).2) fun i hi b hb => big b (lz i hi b hb).1 (OS.lt (gs.oz i hi) hb) (lz i hi b hb).2
  have hln : hit.l = hr.length := fr.len
  have ans : ∀ (e n : Int) (u : World) (Op : Nat → Prop), QV u q (chA t.cols t.pk T s k i hr U).2.2 Op → (∀ b, Op b → O b ∨ w.heap.size ≤ b) → GS p1 p2 p3 (mC (toM T) z) (rsC 0 0 nilS nilS) (schC n0 sc (t.pk : Nat) t.ix) sc t.cols (toM T) z u → FrP (fun b => O b ∨ h0 ≤ b) w u → e = (chA t.cols t.pk T s k i hr U).1 → n = (chA t.cols t.pk T s k i hr U).2.1 →
      (St1 u ⟨p2, 0, none⟩ (.int .i64 e) fun w => St1 w ⟨p2, 1, none⟩ (.int .i64 n) fun w => St1 w ⟨p2, 2, none⟩ (.slice none 0 0) fun w => St1 w ⟨p2, 3, none⟩ (.slice none 0 0) fun w =>
        LdI .i64 w ⟨p2, 0, none⟩ fun Err_4 => LdI .i64 w ⟨p2, 1, none⟩ fun N_5 => LdS w ⟨p2, 2, none⟩ fun Cols_6 => LdS w ⟨p2, 3, none⟩ fun Rows_7 => K Err_4 N_5 Cols_6 Rows_7 w) := fun e n u Op hev hOp fs F he hn => by
    subst he; subst hn
    refine stR (c := nilS) (r := nilS) fs.b2 rfl fun u2 b2 k2 => ldR b2 ?_
    have k2' : FrP (fun b => b = p2) u u2 := FrP.of k2 fun b h1 h2 => by omega
    refine hK u2 Op (hev.frp k2' fun b hb e => ?_) hOp ((F.mono fun b hb => hb.imp_right .inl).trans' k2' fun b hb => .inl (.inr (.inr hb)))
    subst e
    have h1 := gs.b2.lt
    rcases hOp _ hb with h | h
    · exact lp.2.1.2 h
    · omega
  refine join_W (fun u => ∃ Op, QV u q (chA t.cols t.pk T s k i hr U).2.2 Op ∧ (∀ b, Op b → O b ∨ w.heap.size ≤ b) ∧ GS p1 p2 p3 (mC (toM T) z) (rsC 0 0 nilS nilS) (schC n0 sc (t.pk : Nat) t.ix) sc t.cols (toM T) z u ∧ FrP (fun b => O b ∨ h0 ≤ b) w u ∧ (chA t.cols t.pk T s k i hr U).1 = 0 ∧ (chA t.cols t.pk T s k i hr U).2.1 = (hr.length : Nat)) ?_ ?_
  · rintro u ⟨Op, hev, hOp, fs, F, ha, hb⟩
    exact ans _ _ u Op hev hOp fs F ha.symm (by rw [hb, hln])
  intro J98 hJ98
  refine loopN (fun m sv u => ∃ p : Nat, sv = ((p : Int), ()) ∧ p + m = hr.length ∧ CI (fun u U O => QV u q U O) (GS p1 p2 p3 (mC (toM T) z) (rsC 0 0 nilS nilS) (schC n0 sc (t.pk : Nat) t.ix) sc t.cols (toM T) z) w w U O h0 hit ss hr t T k i s p u) hr.length
    ⟨0, rfl, by omega, ⟨⟨O, he, fun b hb => .inl hb⟩, hcs, .inl rfl, gs, ⟨hr, fr, rfl, fun j _ => rfl⟩, FrP.refl _ _, Nat.le_refl _⟩⟩ ?_
  rintro m _ u ⟨p, rfl, hm, ci⟩ Q hQ
  dsimp only
  refine ifd (fun hlt => ?_) fun hlt => ?_
  · have hlt : p < hr.length := by omega
    obtain ⟨row, hrow⟩ : ∃ row, hr[p]? = some row := ⟨_, List.getElem?_eq_getElem hlt⟩
    obtain ⟨rows', fr', hrl, hrj⟩ := ci.fr
    have hrow' : rows'[p]? = some row := by rw [hrj p (Nat.le_refl _)]; exact hrow
    obtain ⟨xs, hxs⟩ : ∃ xs, ss[p]? = some xs := ⟨_, List.getElem?_eq_getElem (by rw [fr'.row.1, hrl]; exact hlt)⟩
    have hxm := List.mem_of_getElem? hxs
    obtain ⟨hrw, hpk⟩ := ci.rowOk hrow
    obtain ⟨Op, hev, hOp⟩ := ci.ev
    have c1 := ci.one hrow hnd hst
    have hfi := ci.cs.fi
    have okp := ci.cs.ok
    have gets : ∀ {z : World} {rws : List (List Vl)} {KK : Sl → Prop}, FR h0 z hit ss rws → rws.length = hr.length → KK xs → Ix hit.a hit.l (p : Int) fun b o => LdS z ⟨b, o + Int.toNat (p : Int) * 1, none⟩ KK := fun {z rws KK} h hl hk => by
      refine OS.get h.arr (by rw [h.len, hl]; exact hlt) fun g2 us hb he2 ho => ?_
      have e : us[p]? = some (slV xs) := by
        rw [he2 p (by rw [List.length_map, h.row.1, hl]; exact hlt), List.getElem?_map, hxs]; rfl
      exact ldS hb (by rw [Int.toNat_natCast, Nat.zero_add, Nat.mul_one]; exact e) hk
    refine ldI ci.gs.b1 rfl ?_
    refine join_P (fun e v => (e = 0 ∧ CI (fun u U O => QV u q U O) (GS p1 p2 p3 (mC (toM T) z) (rsC 0 0 nilS nilS) (schC n0 sc (t.pk : Nat) t.ix) sc t.cols (toM T) z) w w U O h0 hit ss hr t T k i s (p + 1) v) ∨ (e = 21 ∧ p = 0 ∧ tkE s T.table 2 U = 21 ∧ ∃ Oq, QV v q U Oq ∧ (∀ b, Oq b → O b ∨ w.heap.size ≤ b) ∧ GS p1 p2 p3 (mC (toM T) z) (rsC 0 0 nilS nilS) (schC n0 sc (t.pk : Nat) t.ix) sc t.cols (toM T) z v ∧ FrP (fun b => O b ∨ h0 ≤ b) w v)) ?_ ?_
    · rintro e v (⟨rfl, ci'⟩ | ⟨rfl, rfl, h21, Oq, hevq, hOq, fsq, Fq⟩)
      · rw [if_neg (by decide)]
        refine let_ ?_
        rw [W_succ (by omega)]
        exact hQ (m - 1) _ _ (by omega) ⟨p + 1, rfl, by omega, ci'⟩
      · rw [if_pos (by decide)]
        have hne : hr ≠ [] := fun e => by rw [e] at hlt; exact absurd hlt (by simp)
        have ea : chA t.cols t.pk T s k i hr U = (21, 0, U) := by unfold chA; rw [if_neg hne, if_neg (by rw [h21]; decide)]
        refine mfail_spec fun v2 g2 => ?_
        exact ans 21 0 v2 Oq (by rw [ea]; exact hevq.fr0 g2) hOq (fsq.fr0 g2) (Fq.trans (FrP.of0 g2)) (by rw [ea]) (by rw [ea])
    · intro J31 hJ31
      have e0p : p = 0 → chU t.cols t.pk T k i (hr.take p) U = U := fun h => by subst h; rfl
      have hopR : ∀ b, owns xs b → (h0 ≤ b ∧ b < w.heap.size) := fun b hb => ⟨(fr.rb xs hxm b hb).1, s0w xs hxm b hb⟩
      have nOp : ∀ b, owns xs b → ¬ Op b := fun b hb h => by
        have := hopR b hb
        rcases hOp b h with h | h
        · have := lO b h; omega
        · omega
      have wide : ∀ {a c : World}, FrP Op a c → FrP (fun b => O b ∨ h0 ≤ b) w a → FrP (fun b => O b ∨ h0 ≤ b) w c := fun {a c} F F0 => F0.trans' F fun b hb => (hOp b hb).elim (fun h => .inl (.inl h)) fun h => .inr h
      have frOp : ∀ {a c : World} {rws : List (List Vl)}, FR h0 a hit ss rws → FrP Op a c → FR h0 c hit ss rws := fun {a c rws} h F => ⟨h.arr.frp F fun b hb h' => by
          have h1 := h0w b hb
          have h2 := fr.ra b hb
          rcases hOp b h' with h' | h'
          · have := lO b h'; omega
          · omega, h.row.frp F fun x hx b hb h' => by
          have h1 := s0w x hx b hb
          have h2 := (fr.rb x hx b hb).1
          rcases hOp b h' with h' | h'
          · have := lO b h'; omega
          · omega, h.ra, h.rb, h.dis⟩
      refine ifk (fun h10 => ?_) fun h10 => ?_
      · have h10 : T.kind = 10 := by
          have h : ((T.kind : Nat) : Int) = 10 := h10
          omega
        have eop : ∀ db, chOp t.cols t.pk T row db = mdDel T.table (row.getD t.pk v0) db := fun db => by unfold chOp; rw [if_pos h10]
        have fd := ci.gs.dr
        have frd := fr'.dr
        obtain ⟨d, O1, bq, hx1, nq, hO1⟩ := hev.dr.open_
        obtain ⟨kv, hkv⟩ : ∃ kv, row[t.pk]? = some kv := ⟨_, List.getElem?_eq_getElem hpk⟩
        have ekv : row.getD t.pk v0 = kv := getD_of hkv
        have hkm : VMade kv := by rw [← ekv]; exact made_v (getD_ok hrw.2 t.pk)
        refine drew_ (ldP bq rfl (ldStr fd.b1 rfl (gets frd hrl (ldI fd.b3 rfl (cellAt (c := 3) (f := valC) (fun _ => rfl) (frd.row.2 p xs row hxs hrow') (by omega) hkv fun g4 us4 hb4 e04 ek4 ho4 => ldB hb4 e04 (ldI hb4 (ek4 1 (by omega)) (ldStr hb4 (ek4 2 (by omega)) (udel_spec (key := kv) hx1 okp hkm (fun v F1 hne => ?_) fun k' i' h0' hs' hk' ha' hf' v O1' x1 G1 => ?_))))))))
        · have hne : tkE s T.table 2 (chU t.cols t.pk T k i (hr.take p) U) ≠ 0 := hne
          show J31 (tkE s T.table 2 (chU t.cols t.pk T k i (hr.take p) U)) v
          have hp0 : p = 0 := ci.tk.resolve_right fun h => hne h.2
          rw [e0p hp0] at hne ⊢
          have e21 := htk.resolve_left hne
          rw [e21]
          have hev0 := hev
          rw [e0p hp0] at hev0
          exact hJ31 _ _ (.inr ⟨rfl, hp0, e21, Op, hev0.dr.fr0 F1, hOp, fd.fr0 F1, ci.F.drew.trans (FrP.of0 F1)⟩)
        · have ek : k' = k := by omega
          subst ek
          have hf' : fI T.table ((chU t.cols t.pk T k' i (hr.take p) U).db 0) = some i' := hf'
          rw [hfi] at hf'
          cases hf'
          have := QV.put (O := Op) bq nq hO1 x1 G1
          have ee : (mdDel T.table kv ((tkU k' i 2 (chU t.cols t.pk T k' i (hr.take p) U)).db (k' + 1))) = chOp t.cols t.pk T row ((tkU k' i 2 (chU t.cols t.pk T k' i (hr.take p) U)).db (k' + 1)) := by rw [eop, ekv]
          show J31 (mdDel T.table kv ((tkU k' i 2 (chU t.cols t.pk T k' i (hr.take p) U)).db (k' + 1))).1 v
          have this : QV v q (UP (tkU k' i 2 (chU t.cols t.pk T k' i (hr.take p) U)) k' (mdDel T.table kv ((tkU k' i 2 (chU t.cols t.pk T k' i (hr.take p) U)).db (k' + 1))).2) (fun b => b = q ∨ O1' b) ∧ Gw Op u.drew (fun b => b = q ∨ O1' b) v := this
          rw [ee] at this ⊢
          rw [c1.1]
          exact hJ31 _ _ (.inl ⟨rfl, ci.next hrow hnd hst hs h0' this.1 (fun b hb => (this.2.2 b hb).elim (hOp b) fun h => .inr (Nat.le_trans ci.sz h)) (keep fd this.2.1 fun b hb => (hOp b hb).elim .inl fun h => .inr (.inr h)) ⟨rows', frOp frd this.2.1, hrl, fun j hj => hrj j (by omega)⟩ (wide this.2.1 ci.F.drew) (Nat.le_trans ci.sz this.2.1.1.1)⟩)
      · have h10 : T.kind ≠ 10 := by
          have h : ¬ ((T.kind : Nat) : Int) = 10 := h10
          omega
        have h9 : T.kind = 9 := hk9.resolve_right h10
        have eop : ∀ db, chOp t.cols t.pk T row db = mdUpd T.table (stRow t.cols T.sets row) db := fun db => by unfold chOp; rw [if_neg h10]
        have hn2 := hT.n2
        have h91 := (hT.k9 h9)
        refine join_W (fun v => OS v xs (rowC (stRow t.cols T.sets row)) 3 ∧ FrP (owns xs) u v) ?_ ?_
        · rintro v ⟨ov, Fv⟩
          have frv := fr'.turn hxs Fv ov
          have hsx : ∀ b, owns xs b → O b ∨ h0 ≤ b ∨ w.heap.size ≤ b := fun b hb => .inr (.inl (hopR b hb).1)
          have fd := (keep ci.gs Fv hsx).dr
          have frd := frv.dr
          have hev2 := (hev.frp Fv fun b hb h => nOp b h hb).dr
          have Fw : FrP (fun b => O b ∨ h0 ≤ b) w v.drew := (ci.F.trans' Fv fun b hb => .inl (.inr (hopR b hb).1)).drew
          have hszv : w.heap.size ≤ v.drew.heap.size := Nat.le_trans ci.sz Fv.1.1
          have hl2 : (rows'.set p (stRow t.cols T.sets row)).length = hr.length := by rw [List.length_set]; exact hrl
          obtain ⟨d, O1, bq, hx1, nq, hO1⟩ := hev2.open_
          have hso := (stRow_ok (pk := t.pk) hst hrw).1
          refine drew_ (ldP bq rfl (ldStr fd.b1 rfl (gets frd hl2 ?_)))
          refine uupd_spec (vs := stRow t.cols T.sets row) hx1 okp (OS.dr ov) (fun b hb h => nOp b hb ((hO1 b).2 (.inr h))) (fun v hv => made_v (hso.2 v hv)) (by rw [hso.1.1]; omega) (fun hne => ?_) fun k' i' h0' hs' hk' ha' hf' v2 O1' x1 G1 => ?_
          · have hne : tkE s T.table 2 (chU t.cols t.pk T k i (hr.take p) U) ≠ 0 := hne
            show J31 (tkE s T.table 2 (chU t.cols t.pk T k i (hr.take p) U)) v.drew
            have hp0 : p = 0 := ci.tk.resolve_right fun h => hne h.2
            rw [e0p hp0] at hne ⊢
            have e21 := htk.resolve_left hne
            rw [e21]
            have hev0 := hev2
            rw [e0p hp0] at hev0
            exact hJ31 _ _ (.inr ⟨rfl, hp0, e21, Op, hev0, hOp, fd, Fw⟩)
          · have ek : k' = k := by omega
            subst ek
            have hf' : fI T.table ((chU t.cols t.pk T k' i (hr.take p) U).db 0) = some i' := hf'
            rw [hfi] at hf'
            cases hf'
            have := QV.put (O := Op) bq nq hO1 x1 G1
            have ee : (mdUpd T.table (stRow t.cols T.sets row) ((tkU k' i 2 (chU t.cols t.pk T k' i (hr.take p) U)).db (k' + 1))) = chOp t.cols t.pk T row ((tkU k' i 2 (chU t.cols t.pk T k' i (hr.take p) U)).db (k' + 1)) := by rw [eop]
            show J31 (mdUpd T.table (stRow t.cols T.sets row) ((tkU k' i 2 (chU t.cols t.pk T k' i (hr.take p) U)).db (k' + 1))).1 v2
            have this : QV v2 q (UP (tkU k' i 2 (chU t.cols t.pk T k' i (hr.take p) U)) k' (mdUpd T.table (stRow t.cols T.sets row) ((tkU k' i 2 (chU t.cols t.pk T k' i (hr.take p) U)).db (k' + 1))).2) (fun b => b = q ∨ O1' b) ∧ Gw Op v.drew (fun b => b = q ∨ O1' b) v2 := this
            rw [ee] at this ⊢
            rw [c1.1]
            exact hJ31 _ _ (.inl ⟨rfl, ci.next hrow hnd hst hs h0' this.1 (fun b hb => (this.2.2 b hb).elim (hOp b) fun h => .inr (Nat.le_trans hszv h)) (keep fd this.2.1 fun b hb => (hOp b hb).elim .inl fun h => .inr (.inr h)) ⟨_, frOp frd this.2.1, hl2, fun j hj => by rw [List.getElem?_set_ne (by omega)]; exact hrj j (by omega)⟩ (wide this.2.1 Fw) (Nat.le_trans hszv this.2.1.1.1)⟩)
        · intro J50 hJ50
          have oy : OS u (z 1) (strC (T.sets.map (·.col))) 1 := by
            have := ci.gs.oz 1 (by omega)
            have e : vm [] (toM T) 1 = strC (T.sets.map (·.col)) := by show strC (T.list ++ _) = _; rw [h91.1]; rfl
            rw [e] at this
            exact this
          have oz : OS u (z 2) (rowC (T.sets.map (·.lit))) 3 := by
            have := ci.gs.oz 2 (by omega)
            have e : vm [] (toM T) 2 = rowC (T.sets.map (·.lit)) := by show rowC (T.lits ++ _) = _; rw [h91.2]; rfl
            rw [e] at this
            exact this
          refine mset_row (sets := T.sets) (ys := z 1) (zs := z 2) (xs := xs) (row := row) ci.gs.b3 ci.gs.b1 rfl rfl ci.gs.oc (by omega) oy oz (by omega) fr'.arr hxs (fr'.row.2 p xs row hxs hrow') hrw.1.1 (fun c hc => ?_) (fun b hb => ?_) fun v ov Fv => hJ50 v ⟨ov, Fv⟩
          · obtain ⟨ci', h1, _⟩ := (hst c hc).ci
            rw [h1]; simp
          · have h1 := hopR b hb
            refine ⟨by have := lp.2.2.1; omega, by have := lp.1.1; omega, fun h => ?_, fun h => ?_, fun h => ?_, (fr'.rb xs hxm b hb).2⟩
            · have := (lc b h).1; omega
            · have := (lz 1 (by omega) b h).1; omega
            · have := (lz 2 (by omega) b h).1; omega
  · have hpe : p = hr.length := by omega
    obtain ⟨Op, hev, hOp⟩ := ci.ev
    have ea : chA t.cols t.pk T s k i hr U = (0, ((hr.length : Nat) : Int), chU t.cols t.pk T k i (hr.take p) U) := by
      unfold chA
      by_cases hne : hr = []
      · subst hne
        rw [if_pos rfl, List.take_nil]
        rfl
      · have hp : p ≠ 0 := fun e => hne (List.length_eq_zero_iff.1 (by omega))
        have : tkE s T.table 2 U = 0 := (ci.tk.resolve_left hp).1
        rw [if_neg hne, if_pos this, hpe, List.take_of_length_le (Nat.le_refl _)]
    exact hJ98 u ⟨Op, by rw [ea]; exact hev, hOp, ci.gs, ci.F, by rw [ea], by rw [ea]⟩
end Go.Proofs.Qxb6500564aGreat
