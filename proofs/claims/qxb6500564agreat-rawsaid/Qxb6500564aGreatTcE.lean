/-
  The store: CreateIndex, the walk.
-/
import Derived.Test.Qxb6500564aGreatTcD
namespace Go.Proofs.Qxb6500564aGreat
open Go.Den Go.Zip
set_option linter.unusedVariables false
set_option linter.unusedSimpArgs false
variable {dq : Nat}
variable {w w' u v : World} {i j n t f p : Nat} {D : List Bk} {R : List Wr} {cur cur' : Nat → Bk} {op : Bool} {O : Nat → Prop} {T : Nat → Option Es} {pg : Nat → List Nat} {xs : List Th} {s r : Sl} {tb : Tb} {k nm : ByteArray} {vs : List Vl} {cs : List Cl}

theorem idxP_size {vs : List Vl} (hv : ∀ v ∈ vs, VOk v) (col pk : Nat) : (idxP vs col pk).size ≤ 16 := by
  unfold idxP
  rw [ByteArray.size_append, codeV_size (getD_ok hv _), codeV_size (getD_ok hv _)]
  omega
theorem idxP_pk {a b : List Vl} {col pk : Nat} (ha : ∀ v ∈ a, VOk v) (hb : ∀ v ∈ b, VOk v) (h : idxP a col pk = idxP b col pk) : rk pk a = rk pk b := by
  have e' := congrArg bt h
  unfold idxP at e'
  rw [bt_append, bt_append] at e'
  have hl : (bt (codeV (a.getD col v0))).length = (bt (codeV (b.getD col v0))).length := by rw [bt_len, bt_len, codeV_size (getD_ok ha _), codeV_size (getD_ok hb _)]
  exact bt_inj (List.append_inj e' hl).2
set_option maxHeartbeats 6000000 in
theorem tindex_spec {col : Int} {K : Int → World → Prop} (st : TW dq w t f p D R cur true O) (c : FCp cur T pg) (d : DBT T xs)
    (hK : ∀ cur' T' pg' xs' w', TW dq w' t f p D R cur' true O → FCp cur' T' pg' → DBT T' xs' → tbs xs' = (mdIndex nm col (tbs xs)).2 → FrP O w w' → K (mdIndex nm col (tbs xs)).1 w') : S.table_Store_CreateIndex t nm col w K := by
  unfold S.table_Store_CreateIndex
  refine txn_load (nm := nm) (K := K) st c d (fun p1 p2 e w => rfl) (fun hf w1 S1 F1 => ?_) fun x hf w1 q p1 p2 S1 F1 nq n1 n2 l1 l2 ne12 ne1q b1 b2 b3 => ?_
  · have e : mdIndex nm col (tbs xs) = (10, tbs xs) := by unfold mdIndex; rw [tbs_fnd, hf]; rfl
    rw [e] at hK
    exact hK cur T pg xs w1 S1 c d rfl F1
  · have hfb : fnB nm (tbs xs) = some x.tb := by rw [tbs_fnd, hf]; rfl
    obtain ⟨hx, hxn⟩ := fnd_mem hf
    have okx := d.ok x hx
    have okt := okx.1
    have okh := okx.2
    unfold TbOk at okt
    unfold HdOk at okh
    have hnm : nm.size ≤ 6 := by rw [← hxn]; exact okt.1.2
    have hc3 : x.tb.cols.length ≤ 3 := okt.2.1.2
    have hr0 : 0 < x.hr := okh.2.2.2.2.2.2.1
    have hr8 : x.hr < 8 := okh.2.2.2.2.2.2.2.1
    refine ifd (fun h1 => ?_) fun h1 => ?_
    · have e : mdIndex nm col (tbs xs) = (14, tbs xs) := by unfold mdIndex; rw [hfb]; dsimp only; rw [if_pos (.inl h1)]
      rw [e] at hK
      exact hK cur T pg xs w1 S1 c d rfl F1
    refine ldI b1 rfl (ifd (fun h2 => ?_) fun h2 => ?_)
    · have e : mdIndex nm col (tbs xs) = (14, tbs xs) := by unfold mdIndex; rw [hfb]; dsimp only; rw [if_pos (.inr h2)]
      rw [e] at hK
      exact hK cur T pg xs w1 S1 c d rfl F1
    have h2 : ¬ col ≥ (x.tb.cols.length : Int) := h2
    have hno : ¬ (col < 0 ∨ col ≥ x.tb.cols.length) := fun h => h.elim h1 h2
    refine ldI b1 rfl ?_
    show (if (col == (x.tb.pk : Int)) = true then _ else _ : Prop)
    by_cases h3 : col = (x.tb.pk : Int)
    · rw [if_pos (by simpa using h3)]
      have e : mdIndex nm col (tbs xs) = (18, tbs xs) := by unfold mdIndex; rw [hfb]; dsimp only; rw [if_neg hno, if_pos h3]
      rw [e] at hK
      exact hK cur T pg xs w1 S1 c d rfl F1
    rw [if_neg (by simpa using h3)]
    refine ldI b1 rfl (ifd (fun h4 => ?_) fun h4 => ?_)
    · have h4 : x.tb.ix ≥ 0 := h4
      have e : mdIndex nm col (tbs xs) = (11, tbs xs) := by unfold mdIndex; rw [hfb]; dsimp only; rw [if_neg hno, if_neg h3, if_pos h4]
      rw [e] at hK
      exact hK cur T pg xs w1 S1 c d rfl F1
    have h4 : ¬ x.tb.ix ≥ 0 := h4
    have e : mdIndex nm col (tbs xs) = (0, putTb nm { x.tb with ix := col } (tbs xs)) := by unfold mdIndex; rw [hfb]; dsimp only; rw [if_neg hno, if_neg h3, if_neg h4]
    rw [e] at hK
    have hi : x.hi = -1 := by
      rcases okh.2.2.2.2.2.2.2.2 with ⟨_, h⟩ | ⟨h, _⟩
      · exact h
      · exact absurd h h4
    obtain ⟨cn, rfl⟩ : ∃ cn : Nat, col = cn := ⟨col.toNat, by omega⟩
    obtain ⟨h, h0, h8, hT, hlow⟩ := d.low
    have htot := d.total' hx (by omega)
    have hlen := d.len
    have hrl : x.tb.rows.length ≤ 8 := okt.2.2.2.2.2.1
    refine S1.ft (fcreate_spec S1.2.1 c h8 hT hlow (by omega) fun cur2 pg2 w2 s2 c2 F2 => ?_)
    have S2 := S1.ofO F2 s2
    have b12 := b1.frp F2 n1
    have b22 := b2.frp F2 n2
    have b32 := b3.frp F2 nq
    refine ldI b12 rfl (all_spec (i := x.hr) S2 c2 hr8 (by rw [fset_ne (by rintro rfl; rw [d.rws x hx] at hT; cases hT)]; exact d.rws x hx) fun w3 r3 S3 F3 o3 own3 => ?_)
    have b13 := b12.frp F3 n1
    have b23 := b22.frp F3 n2
    have b33 := b32.frp F3 nq
    have F13 : FrP O w w3 := (F1.trans F2).trans F3
    have hlw := F13.1.1
    have hkl := kv_l o3
    have hrel : (rowsE x.tb).length = x.tb.rows.length := List.length_map _
    have r3n : ∀ b, owns r3 b → ¬ O b := fun b hb hO => by
      have := own3 b hb
      have h1 := S2.2.1.2.1.lt hO
      omega
    have hs1 := sumT T (some []) (i := h) h8
    rw [hT] at hs1
    have hs1 : (sumTo 8 fun j => eLen (fset T h (some []) j)) + 0 = (sumTo 8 fun j => eLen (T j)) + 0 := hs1
    rw [join_eq]
    refine loopN (fun m st u => ∃ (k : Nat) (ie : Es) (cu : Nat → Bk) (pu : Nat → List Nat), st = ((0 : Int), (k : Int), ()) ∧ k + m = x.tb.rows.length ∧ TW dq u t f p D R cu true O ∧ FCp cu (fset T h (some ie)) pu ∧ Srt ie ∧ ie.length ≤ k ∧ (∀ e, e ∈ ie ↔ ∃ r ∈ x.tb.rows.take k, e = (idxP r cn x.tb.pk, ⟨#[]⟩)) ∧ Blk u p1 x.hd.cells ∧ Blk u p2 (schC nm (fullS q x.tb.cols.length) x.tb.pk x.tb.ix) ∧ Blk u q (colC x.tb.cols) ∧ OS u r3 (kvC (rowsE x.tb)) 2 ∧ FrP O w u) x.tb.rows.length
      ⟨0, [], cur2, pg2, rfl, by omega, S3, c2, List.Pairwise.nil, by simp, fun e => by simp, b13, b23, b33, o3, F13⟩ ?_
    rintro m _ u ⟨k, ie, cu, pu, rfl, hm, Su, cc, hsi, hli, hmem, a1, a2, a3, ou, Fu⟩ Q hQ
    dsimp only
    refine ifd (fun hk1 => ?_) fun hk1 => ?_
    · have hk : k < x.tb.rows.length := by omega
      obtain ⟨row, hrow⟩ : ∃ row, x.tb.rows[k]? = some row := ⟨_, List.getElem?_eq_getElem hk⟩
      have hrm := List.mem_of_getElem? hrow
      have hro := okt.2.2.2.2.2.2.1 row hrm
      have hpk : x.tb.pk < row.length := by rw [hro.1.1]; exact okt.2.2.2.1
      have hent : (rowsE x.tb)[k]? = some (codeV (row.getD x.tb.pk v0), restP row x.tb.pk) := by
        unfold rowsE
        rw [List.getElem?_map, hrow]; rfl
      have oud : OS u.drew r3 (kvC (rowsE x.tb)) 2 := ou.frp (FrP.refl (fun _ => False) u).drew fun _ _ h => h
      refine drew_ (rd4 a2.drew (kvKey oud hent (kvVal oud hent ?_)))
      refine rowOf_spec (fullOS a3.drew) hc3 hro.1 hro.2 hpk fun u1 q1 lq1 bq1 g1 => ?_
      rw [if_neg (by simp)]
      have T1 := Su.dr.fr0 g1
      have a11 := a1.drew.fr g1 (by omega)
      have a21 := a2.drew.fr g1 (by omega)
      have a31 := a3.drew.fr g1 (by omega)
      have o1 : OS u1 r3 (kvC (rowsE x.tb)) 2 := oud.frp (FrP.of0 (P := fun _ => False) g1) fun _ _ h => h
      refine ldI a11 rfl ?_
      have orow : OS u1 (fullS q1 row.length) (rowC row) 3 := .inr ⟨q1, rfl, rowC_len row, Nat.le_refl _, [], by rw [List.append_nil]; exact bq1, by rw [List.append_nil]; exact rowC_len row⟩
      have hcl : cn < row.length := by rw [hro.1.1]; omega
      refine idxKey_spec (col := cn) (pk := x.tb.pk) orow hro.2 hcl hpk fun u2 g2 => ?_
      have T2 := T1.fr0 g2
      have hs2 := sumT (fset T h (some [])) (some ie) (i := h) h8
      rw [fset_fset, fset_eq, eLen_some, eLen_some, List.length_nil] at hs2
      refine T2.ft (finsert_spec (i := h) (v := ⟨#[]⟩) T2.2.1 cc h8 (fset_eq _ _ _) (idxP_size hro.2 _ _) (by show 0 ≤ 16; omega) (fun _ => by omega) fun cur4 pg4 u4 s4 c4 G4 => ?_)
      rw [fset_fset] at c4
      refine fold00_spec (let_ ?_)
      rw [W_succ (by omega)]
      have htk : x.tb.rows.take (k + 1) = x.tb.rows.take k ++ [row] := by rw [List.take_add_one, hrow]; rfl
      refine hQ (m - 1) _ _ (by omega) ⟨k + 1, _, cur4, pg4, rfl, by omega, T2.ofO G4 s4, c4, ins_srt hsi, ?_, fun e => ?_, (a11.fr g2 (by omega)).frp G4 n1, (a21.fr g2 (by omega)).frp G4 n2, (a31.fr g2 (by omega)).frp G4 nq, (o1.frp (FrP.of0 (P := fun _ => False) g2) fun _ _ h => h).frp G4 r3n, ((Fu.drew.trans (FrP.of0 g1)).trans (FrP.of0 g2)).trans G4⟩
      · rw [ins_len hsi]
        split <;> omega
      · rw [ins_mem_iff hsi, hmem, htk]
        constructor
        · rintro (h | ⟨⟨r, hr, he⟩, _⟩)
          · exact ⟨row, by simp, h⟩
          · exact ⟨r, by simp [hr], he⟩
        · rintro ⟨r, hr, he⟩
          rcases List.mem_append.1 hr with hr | hr
          · by_cases e1 : e = (idxP row cn x.tb.pk, ⟨#[]⟩)
            · exact .inl e1
            · refine .inr ⟨⟨r, hr, he⟩, fun e2 => e1 ?_⟩
              rw [he] at e2 ⊢
              exact congrArg (fun z => (z, (⟨#[]⟩ : ByteArray))) e2
          · rw [List.mem_singleton] at hr
            rw [hr] at he
            exact .inl he
    · have hk : k = x.tb.rows.length := by omega
      subst hk
      rw [List.take_of_length_le (Nat.le_refl _)] at hmem
      refine st1 a1 (by show _ < 5; omega) fun u1 c1 g1 _ => st1 c1 (by show _ < 5; omega) fun u2 c2' g2 _ => ?_
      have hd2 : Blk u2 p1 (⟨x.tb.cols.length, x.tb.pk, cn, x.hr, h⟩ : Hd).cells := c2'
      have G2 : FrP (fun b => b = p1) u u2 := (FrP.of g1 fun b h1 h2 => by omega).trans (FrP.of g2 fun b h1 h2 => by omega)
      have T2 : TW dq u2 t f p D R cu true O := Su.nw G2 st fun b (hb : b = p1) => by omega
      have FF2 : FrP O w u2 := Fu.trans' G2 fun b (hb : b = p1) => .inr (by omega)
      refine catKey_spec (i := 0) hnm (by omega) fun u3 g3 => ?_
      have T3 := T2.fr0 g3
      have hd3 := hd2.fr g3 (by omega)
      have okh' : HdOk ⟨x.tb.cols.length, x.tb.pk, cn, x.hr, h⟩ := by
        unfold HdOk
        have := d.free hT x hx
        refine ⟨okh.1, okh.2.1, okh.2.2.1, ?_, ?_, ?_, hr0, hr8, .inr ⟨?_, ?_, ?_, ?_⟩⟩
        · show (-1 : Int) ≤ (cn : Int); omega
        · show (cn : Int) < (x.tb.cols.length : Int); omega
        · show (cn : Int) ≠ (x.tb.pk : Int); omega
        · show (0 : Int) ≤ (cn : Int); omega
        · show (0 : Int) < (h : Int); omega
        · show (h : Int) < 8; omega
        · show (h : Int) ≠ (x.hr : Int); omega
      refine rd5 hd3 (headText_spec okh' fun u4 g4 => ?_)
      have T4 := T3.fr0 g4
      have hcs := d.csrt
      have hgc : gt (catK nm 0) (cat xs) ≠ none := by
        have hgc := gt_cat (nm := nm) (j := 0) hnm (by omega) d.small d.srt
        rw [hf] at hgc
        rw [hgc, ← hxn]
        dsimp only
        rw [gt_head]
        simp
      refine T4.ft (finsert_spec (i := 0) T4.2.1 cc (by omega) (by rw [fset_ne (by omega)]; exact d.cat0) (by rw [catK_size hnm (by omega)]; omega) (by unfold headT; rw [strOf_size]; show 5 ≤ 16; omega) (fun h => absurd h hgc) fun cur5 pg5 u5 s5 c5 G5 => ?_)
      refine fold00_spec ?_
      have hie : IdxOf { x.tb with ix := (cn : Int) } ie := ⟨hsi, fun e => by rw [hmem]; rfl⟩
      have dd := d.index hx hi (by omega) (by omega) hT h0 h8 hie (ins_srt hcs (k := catK x.tb.name 0)) fun e => ins_mem_iff hcs
      rw [hxn] at dd
      refine hK cur5 _ pg5 _ u5 (T4.ofO G5 s5) c5 dd ?_ (((FF2.trans (FrP.of0 g3)).trans (FrP.of0 g4)).trans G5)
      rw [← hxn]
      exact tbs_ix d hx
end Go.Proofs.Qxb6500564aGreat
