/-
  The store: Scan.
-/
import Derived.Test.Qxb6500564aGreatTbT
namespace Go.Proofs.Qxb6500564aGreat
open Go.Den Go.Zip
set_option linter.unusedVariables false
set_option linter.unusedSimpArgs false
variable {dq : Nat}
variable {w w' u v : World} {i j n t f p : Nat} {D : List Bk} {R : List Wr} {cur cur' : Nat → Bk} {op : Bool} {O : Nat → Prop} {T : Nat → Option Es} {pg : Nat → List Nat} {xs : List Th} {s r : Sl} {tb : Tb} {k nm : ByteArray} {vs : List Vl} {key : Vl}

def Bd.cells (b : Bd) : List Value := [.bool b.has, .bool b.v.st, .int .i64 b.v.i, .string b.v.s]
/-- A scan's own blocks. -/
structure SB (dq : Nat) (w u : World) (t f p : Nat) (D : List Bk) (R : List Wr) (cur : Nat → Bk) (op : Bool) (O : Nat → Prop) (p1 p2 p3 p4 : Nat) (lo hi : Bd) (x : Th) (nm : ByteArray) (q : Nat) : Prop where
  tw : TW dq u t f p D R cur op O
  F : FrP O w u
  lo : Blk u p1 lo.cells
  hi : Blk u p2 hi.cells
  hd : Blk u p3 x.hd.cells
  sc : Blk u p4 (schC nm (fullS q x.tb.cols.length) x.tb.pk x.tb.ix)
  cl : Blk u q (colC x.tb.cols)
theorem SB.nw {p1 p2 p3 p4 q : Nat} {lo hi : Bd} {x : Th} (b : SB dq w u t f p D R cur op O p1 p2 p3 p4 lo hi x nm q) (F : Fr 0 0 u v) : SB dq w v t f p D R cur op O p1 p2 p3 p4 lo hi x nm q :=
  ⟨b.tw.fr0 F, b.F.trans (FrP.of0 F), b.lo.fr F (by omega), b.hi.fr F (by omega), b.hd.fr F (by omega), b.sc.fr F (by omega), b.cl.fr F (by omega)⟩
theorem SB.d {p1 p2 p3 p4 q : Nat} {lo hi : Bd} {x : Th} (b : SB dq w u t f p D R cur op O p1 p2 p3 p4 lo hi x nm q) : SB dq w u.drew t f p D R cur op O p1 p2 p3 p4 lo hi x nm q :=
  ⟨⟨b.tw.1.drew, ⟨b.tw.2.1.1.drew, b.tw.2.1.2.1.frp (FrP.refl (fun _ => False) u).drew (fun _ _ h => h), b.tw.2.1.2.2⟩, b.tw.2.2⟩, b.F.drew, b.lo.drew, b.hi.drew, b.hd.drew, b.sc.drew, b.cl.drew⟩
set_option maxHeartbeats 4000000 in
/-- The part behind the checks. -/
theorem scan_tail {p1 p2 p3 p4 q c : Nat} {lo hi : Bd} {x : Th} {es : Es} {K : Sl → Int → World → Prop} (B : SB dq w u t f p D R cur op O p1 p2 p3 p4 lo hi x nm q) (cc : FCp cur T pg) (d : DBT T xs) (hx : x ∈ xs) (n1 : ¬ O p1) (n2 : ¬ O p2) (n3 : ¬ O p3) (n4 : ¬ O p4) (nq : ¬ O q) (vl : lo.has = true → VOk lo.v) (vh : hi.has = true → VOk hi.v)
    (hc : (c : Int) = x.tb.pk ∨ (c : Int) = x.tb.ix) (hT : T (if c = x.tb.pk then x.hr else x.hi.toNat) = some es) (hw : w.heap.size ≤ u.heap.size)
    (hK : ∀ u' q' qs, TW dq u' t f p D R cur op O → FrP O w u' → w.heap.size ≤ q' → RowsIn w.heap.size u' qs ((spanP es (bdC lo) hi.has (bdC hi)).map (hitR x.tb)) → Blk u' q' (rowsC qs ((spanP es (bdC lo) hi.has (bdC hi)).map (hitR x.tb))) → K (fullS q' (spanP es (bdC lo) hi.has (bdC hi)).length) 0 u') :
    LdB u ⟨p1, 0, none⟩ fun Has_18 =>
      Join (fun (from_19 : ByteArray) (w : World) =>
        LdB w ⟨p2, 0, none⟩ fun Has_20 =>
        Join (fun (upto_21 : ByteArray) (w : World) =>
          LdI .i64 w ⟨p3, 3, none⟩ fun rows_22 =>
          LdI .i64 w ⟨p3, 1, none⟩ fun pk_23 =>
          Join (fun (tree_24 : Int) (w : World) =>
            LdB w ⟨p2, 0, none⟩ fun Has_25 =>
            S.table_Store_span t tree_24 from_19 Has_25 upto_21 w (fun r26 w =>
            MkS 61 [.slice none 0 0] 24 w (r26.l : Int) (r26.l : Int) fun l27 w =>
            Join (fun (w : World) =>
              K l27 0 w) fun J28 =>
            LoopP (σ := Int × Unit) (fun st29 w next30 =>
              if (decide (st29.1 < (r26.l : Int))) = true then
                Ix r26.a r26.l st29.1 fun b31 o32 =>
                LdStr w ⟨b31, o32 + Int.toNat st29.1 * 2, none⟩ fun K_33 =>
                S.table_back K_33 w (fun r34 w =>
                LdI .i64 w ⟨p3, 0, none⟩ fun ncols_35 =>
                LdI .i64 w ⟨p3, 1, none⟩ fun pk_36 =>
                LdI .i64 w ⟨p3, 2, none⟩ fun index_37 =>
                LdI .i64 w ⟨p3, 3, none⟩ fun rows_38 =>
                LdI .i64 w ⟨p3, 4, none⟩ fun idx_39 =>
                LdStr w ⟨p4, 0, none⟩ fun Name_40 =>
                LdS w ⟨p4, 1, none⟩ fun Cols_41 =>
                LdI .i64 w ⟨p4, 2, none⟩ fun PK_42 =>
                LdI .i64 w ⟨p4, 3, none⟩ fun Index_43 =>
                S.table_Store_fetch t ncols_35 pk_36 index_37 rows_38 idx_39 Name_40 Cols_41 PK_42 Index_43 r34 w (fun r44 r45 w =>
                Ix l27.a l27.l st29.1 fun b46 o47 =>
                St1 w ⟨b46, o47 + Int.toNat st29.1 * 1, none⟩ (.slice r44.a r44.l r44.c) fun w =>
                if (r45 != 0) = true then
                  K ⟨none, 0, 0⟩ 23 w
                else
                  Let (W (st29.1 + 1)) fun i_48 =>
                  next30 (i_48, ()) w))
              else
                J28 w) (0, ()) w)) fun J49 =>
          if ((c : Int) != pk_23) = true then
            LdI .i64 w ⟨p3, 4, none⟩ fun idx_50 =>
            J49 idx_50 w
          else
            J49 rows_22 w) fun J51 =>
        if Has_20 = true then
          LdB w ⟨p2, 1, none⟩ fun IsStr_52 =>
          LdI .i64 w ⟨p2, 2, none⟩ fun I_53 =>
          LdStr w ⟨p2, 3, none⟩ fun S_54 =>
          S.table_codeVal IsStr_52 I_53 S_54 w (fun r55 w =>
          J51 r55 w)
        else
          J51 (⟨#[]⟩ : ByteArray) w) fun J56 =>
      if Has_18 = true then
        LdB u ⟨p1, 1, none⟩ fun IsStr_57 =>
        LdI .i64 u ⟨p1, 2, none⟩ fun I_58 =>
        LdStr u ⟨p1, 3, none⟩ fun S_59 =>
        S.table_codeVal IsStr_57 I_58 S_59 u (fun r60 w =>
        J56 r60 w)
      else
        J56 (⟨#[]⟩ : ByteArray) u := by
  have okx := d.ok x hx
  have okh := okx.2
  unfold HdOk at okh
  refine ldB B.lo rfl ?_
  refine join_P (fun fr u' => fr = bdC lo ∧ SB dq w u' t f p D R cur op O p1 p2 p3 p4 lo hi x nm q ∧ w.heap.size ≤ u'.heap.size) ?_ ?_
  · rintro _ u1 ⟨rfl, B1, l1⟩
    refine ldB B1.hi rfl ?_
    refine join_P (fun up u' => up = bdC hi ∧ SB dq w u' t f p D R cur op O p1 p2 p3 p4 lo hi x nm q ∧ w.heap.size ≤ u'.heap.size) ?_ ?_
    · rintro _ u2 ⟨rfl, B2, l2⟩
      refine ldI B2.hd rfl (ldI B2.hd rfl ?_)
      refine join_P (fun tr u' => u2 = u' ∧ ∃ ti : Nat, tr = (ti : Int) ∧ ti < 8 ∧ T ti = some es ∧ ∀ e ∈ spanP es (bdC lo) hi.has (bdC hi), e.1.size < 1000 ∧ ∃ y, rowBy x.tb (backP e.1) = some y) ?_ ?_
      · rintro _ _ ⟨rfl, ti, rfl, hti, hTi, hh⟩
        refine ldB B2.hi rfl (span_spec B2.tw cc hti hTi fun u3 rh S3 F3 o3 own3 => ?_)
        have nown : ∀ b, owns rh b → ¬ O b := fun b hb h => by have := B2.tw.2.1.2.1.lt h; have := own3 b hb; omega
        have l3 := F3.1.1
        have hle : (spanP es (bdC lo) hi.has (bdC hi)).length ≤ 64 := by
          have h1 : (spanP es (bdC lo) hi.has (bdC hi)).length ≤ es.length := by
            unfold spanP
            exact Nat.le_trans (List.takeWhile_sublist _).length_le (List.dropWhile_sublist _).length_le
          have := cc.hgt hti hTi
          omega
        refine hits_spec S3 cc d hx (B2.hd.frp F3 n3) (B2.sc.frp F3 n4) (B2.cl.frp F3 nq) n3 n4 nq o3 nown (fun e he => (hh e he).1) (fun e he => (hh e he).2) hle fun u4 qs S4 F4 hr hb => ?_
        exact hK u4 u3.heap.size qs S4 ((B2.F.trans F3).trans F4) (by omega) ⟨hr.1, fun i q' r h1 h2 => ⟨(hr.2.1 i q' r h1 h2).1, by have := (hr.2.1 i q' r h1 h2).2; omega⟩, hr.2.2⟩ hb
      · intro J hJ
        by_cases hcp : c = x.tb.pk
        · rw [if_pos hcp] at hT
          rw [if_neg (by show ¬ (((c : Int) != ((x.tb.pk : Nat) : Int)) = true); rw [hcp]; simp)]
          refine hJ _ _ ⟨rfl, x.hr, rfl, okh.2.2.2.2.2.2.2.1, hT, fun e he => ?_⟩
          have e1 : es = rowsE x.tb := by have := d.rws x hx; rw [hT] at this; exact Option.some.inj this
          rw [e1] at he
          obtain ⟨a1, y, _, a3, _⟩ := hit_rows okx.1 e he
          exact ⟨a1, y, a3⟩
        · rw [if_neg hcp] at hT
          rw [if_pos (by show ((c : Int) != ((x.tb.pk : Nat) : Int)) = true; simp only [bne_iff_ne, ne_eq]; omega)]
          refine ldI B2.hd rfl ?_
          have hci : (c : Int) = x.tb.ix := hc.resolve_left (by omega)
          rcases okh.2.2.2.2.2.2.2.2 with ⟨hi1, _⟩ | ⟨_, hi2, hi3, _⟩
          · have hi1 : x.tb.ix = -1 := hi1
            omega
          · have hi2 : 0 < x.hi := hi2
            have hi3 : x.hi < 8 := hi3
            refine hJ _ _ ⟨rfl, x.hi.toNat, by show x.hi = _; omega, by omega, hT, fun e he => ?_⟩
            obtain ⟨es', h1, h2⟩ := d.idx x hx (by omega)
            have e1 : es = es' := by rw [hT] at h1; exact Option.some.inj h1
            rw [e1] at he
            obtain ⟨a1, y, _, a3, _⟩ := hit_idx okx.1 h2 e he
            exact ⟨a1, y, a3⟩
    · intro J hJ
      cases hh : hi.has with
      | true =>
        rw [if_pos rfl]
        refine ldB B1.hi rfl (ldI B1.hi rfl (ldStr B1.hi rfl (codeVal_spec (vh hh) fun u2 f2 => hJ _ _ ⟨by unfold bdC; rw [hh]; rfl, B1.nw f2, by have := f2.1.1; omega⟩)))
      | false =>
        rw [if_neg (by simp)]
        exact hJ _ _ ⟨by unfold bdC; rw [hh]; rfl, B1, l1⟩
  · intro J hJ
    cases hl : lo.has with
    | true =>
      rw [if_pos rfl]
      refine ldB B.lo rfl (ldI B.lo rfl (ldStr B.lo rfl (codeVal_spec (vl hl) fun u2 f2 => hJ _ _ ⟨by unfold bdC; rw [hl]; rfl, B.nw f2, by have := f2.1.1; omega⟩)))
    | false =>
      rw [if_neg (by simp)]
      exact hJ _ _ ⟨by unfold bdC; rw [hl]; rfl, B, hw⟩
end Go.Proofs.Qxb6500564aGreat
