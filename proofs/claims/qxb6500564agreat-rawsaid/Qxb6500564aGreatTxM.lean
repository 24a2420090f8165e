/-
  The manager: Insert, Update.
-/
import Derived.Test.Qxb6500564aGreatTxL
namespace Go.Proofs.Qxb6500564aGreat
open Go.Den Go.Zip
set_option linter.unusedVariables false
set_option linter.unusedSimpArgs false
variable {dq : Nat}
variable {w w' u v : World} {i j k n t g b : Nat} {D : List Bk} {R : List Wr} {cur cur' : Nat → Bk} {op : Bool} {O Os P : Nat → Prop} {db : Db} {s x : Sl} {nm : ByteArray} {key : Vl} {U : Mu} {vs : List Vl} {rw_ : Sl}

theorem UP_same (U : Mu) (k : Nat) : UP U k (U.db (k + 1)) = U := by unfold UP; rw [fset_same]
def mdW (fresh : Bool) (nm : ByteArray) (vs : List Vl) (db : Db) : Int × Db := if fresh then mdIns nm vs db else mdUpd nm vs db
theorem insR_or {t : Tb} (ok : TbOk t) (hv : ∀ v ∈ vs, VOk v) (ty : RowTy t.cols vs) (hno : rowBy t (rk t.pk vs) = none) : ∀ y, y ∈ insR t.pk vs t.rows ↔ y = vs ∨ (y ∈ t.rows ∧ y.getD t.pk v0 ≠ vs.getD t.pk v0) := fun y => by
  rw [insR_mem]
  constructor
  · rintro (h | h)
    · exact .inl h
    · refine .inr ⟨h, fun e => ?_⟩
      have := List.find?_eq_none.1 hno y h
      rw [e] at this
      exact this (decide_eq_true rfl)
  · rintro (h | h)
    · exact .inl h
    · exact .inr h.1
theorem setR_or {t : Tb} (ok : TbOk t) (hv : ∀ v ∈ vs, VOk v) (ty : RowTy t.cols vs) (hyes : (rowBy t (rk t.pk vs)).isSome = true) : ∀ y, y ∈ setR t.pk vs t.rows ↔ y = vs ∨ (y ∈ t.rows ∧ y.getD t.pk v0 ≠ vs.getD t.pk v0) := fun y => by
  have ok' := ok
  unfold TbOk at ok'
  rw [setR_mem]
  have cd : ∀ z ∈ t.rows, (rk t.pk z = rk t.pk vs ↔ z.getD t.pk v0 = vs.getD t.pk v0) := fun z hz => by
    have hz' := ok'.2.2.2.2.2.2.1 z hz
    refine ⟨fun e => codeV_inj (getD_ok hz'.2 _) (getD_ok hv _) ?_ e, fun e => by unfold rk; rw [e]⟩
    rw [ty_get hz'.1 ok'.2.2.2.1, ty_get ty ok'.2.2.2.1]
  obtain ⟨z, hz⟩ := Option.isSome_iff_exists.1 hyes
  have hzm := List.mem_of_find?_eq_some hz
  have hze := List.find?_some hz
  constructor
  · rintro (⟨h, _⟩ | ⟨h, h2⟩)
    · exact .inl h
    · exact .inr ⟨h, fun e => h2 ((cd y h).2 e)⟩
  · rintro (h | ⟨h, h2⟩)
    · exact .inl ⟨h, z, hzm, of_decide_eq_true hze⟩
    · exact .inr ⟨h, fun e => h2 ((cd y h).1 e)⟩
set_option maxHeartbeats 8000000 in
theorem write_spec {s : Int} {fresh : Bool} {K : Int → World → Prop} (h : XV dq w g D R cur U O) (or_ : OS w rw_ (rowC vs) 3) (hro : ∀ b, owns rw_ b → ¬ O b) (hm : ∀ v ∈ vs, VMade v) (hvl : vs.length < 1000000)
    (h1 : tkE s nm 2 U ≠ 0 → ∀ w', XV dq w' g D R cur U O → FrP O w w' → K (tkE s nm 2 U) w')
    (h2 : ∀ k i, tkE s nm 2 U = 0 → s = (k : Nat) → k < 4 → U.act k = true → fI nm (U.db 0) = some i → ∀ w' O', XV dq w' g D R cur (UP (tkU k i 2 U) k (mdW fresh nm vs ((tkU k i 2 U).db (k + 1))).2) O' → Gw O w O' w' → K (mdW fresh nm vs ((tkU k i 2 U).db (k + 1))).1 w') : S.txn_Mgr_write g s nm rw_ fresh w K := by
  unfold S.txn_Mgr_write
  refine xtake_spec (mode := 2) h (.inr rfl) (fun hne w1 x1 F1 => ?_) fun k i x he hs hk ha hf hfb w1 q x1 F1 hq b1 => ?_
  · refine newB fun w2 a2 f2 s2 => st4 (s := nilS) a2 rfl fun w3 b3 f3 => ?_
    rw [join_eq, if_neg (by simpa using hne)]
    dsimp only
    rw [if_pos (by simp only [bne_iff_ne, ne_eq]; exact hne)]
    have f23 : Fr 0 0 w1 w3 := f2.thenNew f3 (Nat.le_refl _)
    exact h1 hne w3 (x1.fr0 f23) (F1.trans (FrP.of0 f23))
  · subst hs
    have h2 := h2 k i he rfl hk ha hf
    have l1 := F1.1.1
    refine newB fun w2 a2 f2 s2 => st4 (s := fullS q x.cols.length) a2 rfl fun w3 b3 f3 => ?_
    have f23 : Fr 0 0 w1 w3 := f2.thenNew f3 (Nat.le_refl _)
    have x3 := x1.fr0 f23
    have F3 : FrP O w w3 := F1.trans (FrP.of0 f23)
    have bq3 := b1.fr f23 (by have := b1.lt; omega)
    have or3 : OS w3 rw_ (rowC vs) 3 := OS.fr0 (or_.frp F1 hro) f23
    have e0 := tkU_db0 k i 2 U
    have hlk2 : (tkU k i 2 U).lk k i = 2 := by
      rw [tkU_lk]
      have := (h.ok).l2 k i hk
      split <;> omega
    have hsd : seenD k i (tkU k i 2 U) = k + 1 := by unfold seenD; rw [if_pos hlk2]
    have hf1 : fI nm ((tkU k i 2 U).db 0) = some i := by rw [e0]; exact hf
    have ok1 := x3.ok
    have ha1 : (tkU k i 2 U).act k = true := ha
    -- the tables
    obtain ⟨tc, qs, htc, hqf, okt, okq, hsch⟩ : ∃ tc qs, fnB nm ((tkU k i 2 U).db 0) = some tc ∧ fnB nm ((tkU k i 2 U).db (k + 1)) = some qs ∧ TbOk tc ∧ TbOk qs ∧ sch qs = sch tc := by
      obtain ⟨r, _, hr, ok⟩ := x3
      obtain ⟨t, q, a1, _, _, a4, _, a6, a7, a8, _⟩ := hr.seen ok hk hf1
      rw [hsd] at a4
      exact ⟨t, q, a1, a4, a6, a7, a8⟩
    have hxt : tc = x := by rw [e0, hfb] at htc; exact (Option.some.inj htc).symm
    subst hxt
    have hcols := sch_cols hsch
    have hpk := sch_pk hsch
    -- errors that leave the own copy alone
    have same : ∀ {e : Int}, mdW fresh nm vs ((tkU k i 2 U).db (k + 1)) = (e, (tkU k i 2 U).db (k + 1)) → ∀ u, XV dq u g D R cur (tkU k i 2 U) O → FrP O w u → K e u := fun {e} hmd u xu Fu => by
      have := h2 u O (by rw [hmd, UP_same]; exact xu) ⟨Fu, fun b hb => .inl hb⟩
      rw [hmd] at this
      exact this
    refine join_P (fun e u => e = chkRow tc.cols vs ∧ XV dq u g D R cur (tkU k i 2 U) O ∧ FrP O w u ∧ Fr 0 0 w3 u) ?_ ?_
    · rintro _ u ⟨rfl, xu, Fu, fu⟩
      by_cases hck : chkRow tc.cols vs = 0
      · rw [if_neg (by simp [hck])]
        obtain ⟨hv, hty, hpl, hko, hkt⟩ := chkRow_key okt.hpk hm hck
        have b3u := b3.fr fu (by have := b3.lt; omega)
        have oru := OS.fr0 or3 fu
        refine ldI b3u rfl (at_spec oru hpl fun u1 t1 => newB fun u2 c2 t2 z2 => lay3 (x := vs.getD tc.pk v0) c2 rfl fun u3 c3 t3 => ?_)
        have t13 : Fr 0 0 u u3 := (t1.then0 t2).thenNew t3 (by have := t1.1.1; omega)
        have xu3 := xu.fr0 t13
        have Fu3 := Fu.trans (FrP.of0 t13)
        refine ldB c3 rfl (ldI c3 rfl (ldStr c3 rfl ?_))
        obtain ⟨r, hg, hr, ok⟩ := xu3
        obtain ⟨t, Os, sw, cw, hgm, hO⟩ := hg
        rw [e0] at hgm
        have wO : ∀ {a b : World}, FrP Os a b → FrP O a b := fun {a b} F => F.mono fun b hb => (hO b).2 (.inr (.inl hb))
        have hcnt := hr.cnt ok hk
        have hwo := hr.wo k hk
        rw [e0] at hwo
        have hseen := hr.seen ok hk hf1
        obtain ⟨_, _, a1, _, _, a4, _, _, _, _, hsee⟩ := hseen
        rw [hsd, hqf] at a4
        rw [htc] at a1
        cases a1
        cases a4
        refine has_spec (key := vs.getD tc.pk v0) hgm hk (by omega) (ok_made hko) fun u4 g4 F4 => ?_
        rw [hs_eq hwo (by rw [← e0]; exact htc) okt okq hsch hsee hko hkt]
        have x4 : XV dq u4 g D R cur (tkU k i 2 U) O := ⟨r, ⟨t, Os, sw, cw, by rw [e0]; exact g4, hO⟩, hr, ok⟩
        have FF4 : FrP O w u4 := Fu3.trans (wO F4)
        have lw3 := F3.1.1
        have lfu := fu.1.1
        have lt1 := t1.1.1
        have n12 : ¬ O u1.heap.size := fun hb => by have := h.lt hb; omega
        have n12s : ¬ Os u1.heap.size := fun hb => n12 ((hO _).2 (.inr (.inl hb)))
        have c34 : Blk u4 u1.heap.size (valC (vs.getD tc.pk v0)) := c3.frp F4 n12s
        have or4 : OS u4 rw_ (rowC vs) 3 := (OS.fr0 oru t13).frp F4 fun b hb hb' => hro b hb ((hO b).2 (.inr (.inl hb')))
        have hrk : rk qs.pk vs = codeV (vs.getD tc.pk v0) := by unfold rk; rw [hpk]
        refine join_W (fun u => u4 = u ∧ (fresh = true → (rowBy qs (codeV (vs.getD tc.pk v0))).isSome = false)) ?_ ?_
        · rintro _ ⟨rfl, hfr⟩
          refine join_W (fun u => u4 = u ∧ (fresh = true → (rowBy qs (codeV (vs.getD tc.pk v0))).isSome = false) ∧ (fresh = false → (rowBy qs (codeV (vs.getD tc.pk v0))).isSome = true)) ?_ ?_
          · rintro _ ⟨rfl, hfr, hfs⟩
            have hvw : vwE (k : Int) nm (tkU k i 2 U) = 0 := by
              unfold vwE
              rw [show gs (k : Int) = true from decide_eq_true (by omega), if_neg (by simp), hf1]
            refine xview_spec x4 (fun hne => absurd hvw hne) fun k' i' q' hk' hk4 hfi' hq' u5 r5 ss5 fr5 x5 F5 => ?_
            have ek' : k' = k := by omega
            subst ek'
            rw [hf1] at hfi'
            cases hfi'
            rw [hsd, hqf] at hq'
            cases hq'
            have c35 := c34.frp F5 n12
            have or5 := or4.frp F5 hro
            have hr5 := fr5.l
            have FF5 := FF4.trans F5
            refine join_W (fun u => u5 = u ∧ (fresh = true → qs.rows.length < 8)) ?_ ?_
            · rintro _ ⟨rfl, hlen⟩
              refine cloneRow_spec or5 hvl fun u6 b6 f6 => ?_
              have c36 := c35.fr f6 (by have := c35.lt; omega)
              refine ldB c36 rfl (ldI c36 rfl (ldStr c36 rfl ?_))
              obtain ⟨r', hg', hr', ok'⟩ := x5
              obtain ⟨t', Os', sw', cw', hgm', hO'⟩ := hg'
              rw [e0] at hgm'
              have hcnt' := hr'.cnt ok' hk
              have hwo' := hr'.wo k' hk
              rw [e0] at hwo'
              obtain ⟨_, _, d1, _, _, d4, _, _, _, _, hsee'⟩ := hr'.seen ok' hk hf1
              rw [hsd, hqf] at d4
              rw [htc] at d1
              cases d1
              cases d4
              refine put_spec (c := ⟨nm, vs.getD tc.pk v0, false, vs⟩) hgm' f6 hk (by omega) (fullRow b6) (fun b hb => by rw [full_owns hb]; exact Nat.le_refl _) fun u7 sw7 cw7 g7 G7 => ?_
              have hchat : ChAt tc ⟨nm, vs.getD tc.pk v0, false, vs⟩ := ⟨hko, hkt, fun hg => (by cases hg), fun _ => ⟨hty, hv, rfl⟩⟩
              have hft : fnB nm (U.db 0) = some tc := by rw [← e0]; exact htc
              -- the rows of the own copy
              obtain ⟨rows', hmd, hrows⟩ : ∃ rows', mdW fresh nm vs ((tkU k' i 2 U).db (k' + 1)) = (0, putTb nm { qs with rows := rows' } ((tkU k' i 2 U).db (k' + 1))) ∧ ∀ y, y ∈ rows' ↔ y = vs ∨ (y ∈ qs.rows ∧ y.getD tc.pk v0 ≠ vs.getD tc.pk v0) := by
                have hckq : chkRow qs.cols vs = 0 := by rw [hcols]; exact hck
                have htyq : RowTy qs.cols vs := by rw [hcols]; exact hty
                cases hfresh : fresh with
                | true =>
                  have hno : rowBy qs (rk qs.pk vs) = none := by
                    rw [hrk]
                    cases hrb : rowBy qs (codeV (vs.getD tc.pk v0)) with
                    | none => rfl
                    | some z =>
                      have := hfr hfresh
                      rw [hrb] at this
                      cases this
                  refine ⟨insR qs.pk vs qs.rows, ?_, fun y => ?_⟩
                  · unfold mdW mdIns
                    rw [if_pos rfl, hqf]
                    dsimp only
                    rw [if_neg (by simp [hckq]), hno, if_neg (by simp), if_neg (by have := hlen hfresh; omega)]
                  · have := insR_or okq hv htyq hno y
                    rw [hpk] at this
                    rw [hpk]
                    exact this
                | false =>
                  have hyes : (rowBy qs (rk qs.pk vs)).isSome = true := by rw [hrk]; exact hfs hfresh
                  refine ⟨setR qs.pk vs qs.rows, ?_, fun y => ?_⟩
                  · unfold mdW mdUpd
                    rw [if_neg (by simp), hqf]
                    dsimp only
                    rw [if_neg (by simp [hckq]), if_neg (by rw [← Option.not_isSome, hyes]; simp)]
                  · have := setR_or okq hv htyq hyes y
                    rw [hpk] at this
                    rw [hpk]
                    exact this
              have hchg := hr'.chg (q' := { qs with rows := rows' }) ok' hk ha1 hf1 (by rw [e0]; exact hft) hlk2 (by rw [e0]; exact hwo'.put hft hchat) (fun c hc => ?_) (sees_put hwo' hft hsee' (ok_made hko) hrows)
              · have hokU : UOk (UP (tkU k' i 2 U) k' (putTb nm { qs with rows := rows' } ((tkU k' i 2 U).db (k' + 1)))) := by
                  have hdb : putTb nm { qs with rows := rows' } ((tkU k' i 2 U).db (k' + 1)) = (mdW fresh nm vs ((tkU k' i 2 U).db (k' + 1))).2 := by rw [hmd]
                  rw [hdb]
                  have hd := ok'.d (k' + 1) (by omega)
                  have hsh := ok'.sh k' hk ha1
                  unfold mdW
                  split
                  · obtain ⟨b1, b2⟩ := mdIns_ok (nm := nm) hd hm
                    exact ok'.priv hk ha1 b1 (b2.trans hsh)
                  · obtain ⟨b1, b2⟩ := mdUpd_ok (nm := nm) hd hm
                    exact ok'.priv hk ha1 b1 (b2.trans hsh)
                have hdb0 : (UP (tkU k' i 2 U) k' (putTb nm { qs with rows := rows' } ((tkU k' i 2 U).db (k' + 1)))).db 0 = U.db 0 := by
                  unfold UP
                  dsimp only
                  rw [fset_ne (by omega)]
                  exact e0
                have := h2 u7 _ (by rw [hmd]; exact ⟨_, ⟨t', Os', sw7, cw7, by rw [hdb0]; exact g7, fun b => Iff.rfl⟩, hchg, hokU⟩) ?_
                · rw [hmd] at this
                  exact this
                · have GG := gwO hO' G7
                  have l5 := FF5.1.1
                  exact ⟨FF5.trans GG.1, fun b hb => (GG.2 b hb).elim .inl fun h' => .inr (by omega)⟩
              · rw [putC_mem hwo'.made hwo'.srt (ok_made hko)]
                constructor
                · rintro (rfl | h')
                  · exact absurd rfl hc
                  · exact h'.1
                · exact fun h' => .inr ⟨h', fun e => hc e.1⟩
            · intro J hJ
              refine ifb (fun hfresh => ?_) fun hfresh => hJ _ ⟨rfl, fun e => by rw [hfresh] at e; cases e⟩
              refine ifd (fun h8 => ?_) fun h8 => hJ _ ⟨rfl, fun _ => by omega⟩
              refine same ?_ u5 x5 FF5
              have hckq : chkRow qs.cols vs = 0 := by rw [hcols]; exact hck
              unfold mdW mdIns
              rw [hfresh, if_pos rfl, hqf]
              dsimp only
              rw [if_neg (by simp [hckq]), hrk, hfr hfresh, if_neg (by simp), if_pos (by omega)]
          · intro J hJ
            refine ifn (fun hfresh => ?_) fun hfresh => hJ _ ⟨rfl, hfr, fun e => by rw [hfresh] at e; cases e⟩
            refine ifn (fun hh => ?_) fun hh => hJ _ ⟨rfl, hfr, fun _ => hh⟩
            refine same ?_ u4 x4 FF4
            have hckq : chkRow qs.cols vs = 0 := by rw [hcols]; exact hck
            unfold mdW mdUpd
            rw [hfresh, if_neg (by simp), hqf]
            dsimp only
            rw [if_neg (by simp [hckq]), hrk, if_pos (by rw [← Option.not_isSome, hh]; rfl)]
        · intro J hJ
          refine ifb (fun hfresh => ?_) fun hfresh => hJ _ ⟨rfl, fun e => by rw [hfresh] at e; cases e⟩
          refine ifb (fun hh => ?_) fun hh => hJ _ ⟨rfl, fun _ => hh⟩
          refine same ?_ u4 x4 FF4
          have hckq : chkRow qs.cols vs = 0 := by rw [hcols]; exact hck
          unfold mdW mdIns
          rw [hfresh, if_pos rfl, hqf]
          dsimp only
          rw [if_neg (by simp [hckq]), hrk, if_pos hh]
      · rw [if_pos (by simp only [bne_iff_ne, ne_eq]; exact hck)]
        refine same ?_ u xu Fu
        unfold mdW mdIns mdUpd
        rw [hqf]
        dsimp only
        rw [hcols, if_pos hck, if_pos hck]
        split <;> rfl
    · intro J hJ
      rw [if_pos (by rfl)]
      refine rd4 b3 (checkRow_spec (fullOS bq3) or3 hvl fun u fu => hJ _ _ ⟨rfl, x3.fr0 fu, F3.trans (FrP.of0 fu), fu⟩)
end Go.Proofs.Qxb6500564aGreat
