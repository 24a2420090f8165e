/-
  The manager: Delete, Lookup.
-/
import Derived.Test.Qxb6500564aGreatTxM
namespace Go.Proofs.Qxb6500564aGreat
open Go.Den Go.Zip
set_option linter.unusedVariables false
set_option linter.unusedSimpArgs false
variable {dq : Nat}
variable {w w' u v : World} {i j k n t g b : Nat} {D : List Bk} {R : List Wr} {cur cur' : Nat → Bk} {op : Bool} {O Os P : Nat → Prop} {db : Db} {s x : Sl} {nm : ByteArray} {key : Vl} {U : Mu} {vs : List Vl} {rw_ : Sl}

theorem delR_or {t : Tb} (ok : TbOk t) (hk : VOk key) (hty : key.st = (t.cols.getD t.pk c0).st) : ∀ y, y ∈ delR t.pk (codeV key) t.rows ↔ y ∈ t.rows ∧ y.getD t.pk v0 ≠ key := fun y => by
  have ok' := ok
  unfold TbOk at ok'
  rw [delR_mem]
  constructor
  · rintro ⟨h, h2⟩
    exact ⟨h, fun e => h2 (by unfold rk; rw [e])⟩
  · rintro ⟨h, h2⟩
    refine ⟨h, fun e => h2 ?_⟩
    have hz' := ok'.2.2.2.2.2.2.1 y h
    exact codeV_inj (getD_ok hz'.2 _) hk (by rw [ty_get hz'.1 ok'.2.2.2.1, hty]) e
set_option maxHeartbeats 8000000 in
theorem xdel_spec {s : Int} {K : Int → World → Prop} (h : XV dq w g D R cur U O) (hm : VMade key)
    (h1 : tkE s nm 2 U ≠ 0 → ∀ w', XV dq w' g D R cur U O → FrP O w w' → K (tkE s nm 2 U) w')
    (h2 : ∀ k i, tkE s nm 2 U = 0 → s = (k : Nat) → k < 4 → U.act k = true → fI nm (U.db 0) = some i → ∀ w' O', XV dq w' g D R cur (UP (tkU k i 2 U) k (mdDel nm key ((tkU k i 2 U).db (k + 1))).2) O' → Gw O w O' w' → K (mdDel nm key ((tkU k i 2 U).db (k + 1))).1 w') : S.txn_Mgr_Delete g s nm key.st key.i key.s w K := by
  unfold S.txn_Mgr_Delete
  refine newB fun w0 kb f0 s0 => ?_
  have kb : Blk w0 w.heap.size (valC key) := kb
  have nO : ¬ O w.heap.size := fun hb => by have := h.lt hb; omega
  refine xtake_spec (mode := 2) (h.fr0 f0) (.inr rfl) (fun hne w1 x1 F1 => ?_) fun k i x he hs hk ha hf hfb w1 q x1 F1 hq b1 => ?_
  · refine newB fun w2 a2 f2 s2 => st4 (s := nilS) a2 rfl fun w3 b3 f3 => ?_
    rw [join_eq, if_neg (by simpa using hne)]
    dsimp only
    rw [if_pos (by simp only [bne_iff_ne, ne_eq]; exact hne)]
    have f23 : Fr 0 0 w1 w3 := f2.thenNew f3 (Nat.le_refl _)
    exact h1 hne w3 (x1.fr0 f23) (((FrP.of0 f0).trans F1).trans (FrP.of0 f23))
  · subst hs
    have h2 := h2 k i he rfl hk ha hf
    have l0 := f0.1.1
    have l1 := F1.1.1
    have kb1 := kb.frp F1 nO
    refine newB fun w2 a2 f2 s2 => st4 (s := fullS q x.cols.length) a2 rfl fun w3 b3 f3 => ?_
    have f23 : Fr 0 0 w1 w3 := f2.thenNew f3 (Nat.le_refl _)
    have x3 := x1.fr0 f23
    have F3 : FrP O w w3 := ((FrP.of0 f0).trans F1).trans (FrP.of0 f23)
    have bq3 := b1.fr f23 (by have := b1.lt; omega)
    have kb3 := kb1.fr f23 (by have := kb1.lt; omega)
    have e0 := tkU_db0 k i 2 U
    have hlk2 : (tkU k i 2 U).lk k i = 2 := by
      rw [tkU_lk]
      have := (h.ok).l2 k i hk
      split <;> omega
    have hsd : seenD k i (tkU k i 2 U) = k + 1 := by unfold seenD; rw [if_pos hlk2]
    have hf1 : fI nm ((tkU k i 2 U).db 0) = some i := by rw [e0]; exact hf
    have ok1 := x3.ok
    have ha1 : (tkU k i 2 U).act k = true := ha
    obtain ⟨tc, qs, htc, hqf, okt, okq, hsch⟩ : ∃ tc qs, fnB nm ((tkU k i 2 U).db 0) = some tc ∧ fnB nm ((tkU k i 2 U).db (k + 1)) = some qs ∧ TbOk tc ∧ TbOk qs ∧ sch qs = sch tc := by
      obtain ⟨r, _, hr, ok⟩ := x3
      obtain ⟨t, q, a1, _, _, a4, _, a6, a7, a8, _⟩ := hr.seen ok hk hf1
      rw [hsd] at a4
      exact ⟨t, q, a1, a4, a6, a7, a8⟩
    have hxt : tc = x := by rw [e0, hfb] at htc; exact (Option.some.inj htc).symm
    subst hxt
    have hcols := sch_cols hsch
    have hpk := sch_pk hsch
    have same : ∀ {e : Int}, mdDel nm key ((tkU k i 2 U).db (k + 1)) = (e, (tkU k i 2 U).db (k + 1)) → ∀ u, XV dq u g D R cur (tkU k i 2 U) O → FrP O w u → K e u := fun {e} hmd u xu Fu => by
      have := h2 u O (by rw [hmd, UP_same]; exact xu) ⟨Fu, fun b hb => .inl hb⟩
      rw [hmd] at this
      exact this
    refine join_P (fun e u => e = chkVal tc.cols tc.pk key ∧ XV dq u g D R cur (tkU k i 2 U) O ∧ FrP O w u ∧ Fr 0 0 w3 u) ?_ ?_
    · rintro _ u ⟨rfl, xu, Fu, fu⟩
      by_cases hck : chkVal tc.cols tc.pk key = 0
      · rw [if_neg (by simp [hck])]
        obtain ⟨hko, hkt⟩ := chkVal0 hm hck
        have hckq : chkVal qs.cols qs.pk key = 0 := by rw [hcols, hpk]; exact hck
        have kbu := kb3.fr fu (by have := kb3.lt; omega)
        refine ldB kbu rfl (ldI kbu rfl (ldStr kbu rfl ?_))
        obtain ⟨r, hg, hr, ok⟩ := xu
        obtain ⟨t, Os, sw, cw, hgm, hO⟩ := hg
        rw [e0] at hgm
        have wO : ∀ {a b : World}, FrP Os a b → FrP O a b := fun {a b} F => F.mono fun b hb => (hO b).2 (.inr (.inl hb))
        have hcnt := hr.cnt ok hk
        have hwo := hr.wo k hk
        rw [e0] at hwo
        obtain ⟨_, _, a1, _, _, a4, _, _, _, _, hsee⟩ := hr.seen ok hk hf1
        rw [hsd, hqf] at a4
        rw [htc] at a1
        cases a1
        cases a4
        have hft : fnB nm (U.db 0) = some tc := by rw [← e0]; exact htc
        have nOs : ¬ Os w.heap.size := fun hb => nO ((hO _).2 (.inr (.inl hb)))
        refine has_spec hgm hk (by omega) hm fun u4 g4 F4 => ?_
        rw [hs_eq hwo hft okt okq hsch hsee hko hkt]
        have x4 : XV dq u4 g D R cur (tkU k i 2 U) O := ⟨r, ⟨t, Os, sw, cw, by rw [e0]; exact g4, hO⟩, hr, ok⟩
        have FF4 : FrP O w u4 := Fu.trans (wO F4)
        have kb4 := kbu.frp F4 nOs
        refine ifn (fun hh => ?_) fun hh => ?_
        · refine same ?_ u4 x4 FF4
          unfold mdDel
          rw [hqf]
          dsimp only
          rw [if_neg (by simp [hckq]), if_pos (by rw [← Option.not_isSome, hh]; rfl)]
        · have hmd : mdDel nm key ((tkU k i 2 U).db (k + 1)) = (0, putTb nm { qs with rows := delR qs.pk (codeV key) qs.rows } ((tkU k i 2 U).db (k + 1))) := by
            unfold mdDel
            rw [hqf]
            dsimp only
            rw [if_neg (by simp [hckq]), if_neg (by rw [← Option.not_isSome, hh]; simp)]
          have hrows : ∀ y, y ∈ delR qs.pk (codeV key) qs.rows ↔ y ∈ qs.rows ∧ y.getD tc.pk v0 ≠ key := fun y => by
            have := delR_or okq hko (by rw [hcols, hpk]; exact hkt) y
            rw [hpk] at this
            rw [hpk]
            exact this
          have hd := ok.d (k + 1) (by omega)
          have hsh := ok.sh k hk ha1
          have hokU : UOk (UP (tkU k i 2 U) k (putTb nm { qs with rows := delR qs.pk (codeV key) qs.rows } ((tkU k i 2 U).db (k + 1)))) := by
            obtain ⟨b1, b2⟩ := mdDel_ok (nm := nm) (key := key) hd
            rw [hmd] at b1 b2
            exact ok.priv hk ha1 b1 (b2.trans hsh)
          have hdb0 : (UP (tkU k i 2 U) k (putTb nm { qs with rows := delR qs.pk (codeV key) qs.rows } ((tkU k i 2 U).db (k + 1)))).db 0 = U.db 0 := by
            unfold UP
            dsimp only
            rw [fset_ne (by omega)]
            exact e0
          have fin : ∀ {l' : List Ch} {v : World} {sw7 cw7}, WOk (U.db 0) l' → (∀ c, c.tab ≠ nm → (c ∈ l' ↔ c ∈ r.ws k)) → Sees nm tc.pk tc.rows l' (delR qs.pk (codeV key) qs.rows) → GM dq v g t D R cur false Os (U.db 0) { r with ws := fset r.ws k l' } sw7 cw7 → Gw O w (gw g Os sw7 cw7) v → K 0 v := fun {l' v sw7 cw7} hw hoth hse g7 GG => by
            have hchg := hr.chg (q' := { qs with rows := delR qs.pk (codeV key) qs.rows }) ok hk ha1 hf1 (by rw [e0]; exact hft) hlk2 (by rw [e0]; exact hw) hoth hse
            have := h2 v _ (by rw [hmd]; exact ⟨_, ⟨t, Os, sw7, cw7, by rw [hdb0]; exact g7, fun b => Iff.rfl⟩, hchg, hokU⟩) GG
            rw [hmd] at this
            exact this
          refine ldB kb4 rfl (ldI kb4 rfl (ldStr kb4 rfl (below_spec g4 hm fun u5 g5 F5 => ?_)))
          have kb5 := kb4.frp F5 nOs
          have FF5 := FF4.trans (wO F5)
          have l5 := FF5.1.1
          rw [bl_eq hft hck]
          refine ifb (fun hb => ?_) fun hb => ?_
          · refine ldB kb5 rfl (ldI kb5 rfl (ldStr kb5 rfl ?_))
            have hchat : ChAt tc ⟨nm, key, true, []⟩ := ⟨hko, hkt, fun _ => ⟨rfl, hb⟩, fun hg => (by cases hg)⟩
            refine put_spec (c := ⟨nm, key, true, []⟩) (rs := ⟨none, 0, 0⟩) g5 (Fr.refl 0 0 u5) hk (by omega) (OS.nil _ _) (fun b hb => by unfold owns at hb; cases hb) fun u7 sw7 cw7 g7 G7 => ?_
            refine fin (hwo.put hft hchat) (fun c hc => ?_) (sees_gone hwo hft hsee hm hrows) g7 ?_
            · rw [putC_mem hwo.made hwo.srt hm]
              constructor
              · rintro (rfl | h')
                · exact absurd rfl hc
                · exact h'.1
              · exact fun h' => .inr ⟨h', fun e => hc e.1⟩
            · have GG := gwO hO G7
              exact ⟨FF5.trans GG.1, fun b hb => (GG.2 b hb).elim .inl fun h' => .inr (by omega)⟩
          · refine ldB kb5 rfl (ldI kb5 rfl (ldStr kb5 rfl (drop_spec g5 hk (by omega) fun u7 sw7 cw7 g7 G7 => ?_)))
            refine fin (hwo.drop hm) (fun c hc => ?_) (sees_drop hwo hft hsee hm (fun y hy e => ?_) hrows) g7 ?_
            · rw [dropC_mem hwo.made hwo.srt hm]
              exact ⟨fun h' => h'.1, fun h' => ⟨h', fun e => hc e.1⟩⟩
            · have := (rowBy_isSome okt hko hkt).2 ⟨y, hy, e⟩
              rw [hb] at this; cases this
            · have GG := gwO hO G7
              exact ⟨FF5.trans GG.1, fun b hb => (GG.2 b hb).elim .inl fun h' => .inr (by omega)⟩
      · rw [if_pos (by simp only [bne_iff_ne, ne_eq]; exact hck)]
        refine same ?_ u xu Fu
        unfold mdDel
        rw [hqf]
        dsimp only
        rw [hcols, hpk, if_pos hck]
    · intro J hJ
      rw [if_pos (by rfl)]
      refine rd4 b3 (ldI b3 rfl (ldB kb3 rfl (ldI kb3 rfl (ldStr kb3 rfl (checkVal_spec (fullOS bq3) okt.hpk fun u fu => hJ _ _ ⟨rfl, x3.fr0 fu, F3.trans (FrP.of0 fu), fu⟩)))))
set_option maxHeartbeats 4000000 in
theorem xlook_spec {s : Int} {K : Sl → Int → World → Prop} (h : XV dq w g D R cur U O) (hm : VMade key) (hck : ∀ t, fnB nm (U.db 0) = some t → chkVal t.cols t.pk key = 0)
    (h1 : tkE s nm 1 U ≠ 0 → ∀ w', XV dq w' g D R cur U O → FrP O w w' → K nilS (tkE s nm 1 U) w')
    (h2 : ∀ k i q, tkE s nm 1 U = 0 → s = (k : Nat) → k < 4 → U.act k = true → fI nm (U.db 0) = some i → fnB nm (U.db (seenD k i (tkU k i 1 U))) = some q → rowBy q (codeV key) = none → ∀ w', XV dq w' g D R cur (tkU k i 1 U) O → FrP O w w' → K nilS 9 w')
    (h3 : ∀ k i q y, tkE s nm 1 U = 0 → s = (k : Nat) → k < 4 → U.act k = true → fI nm (U.db 0) = some i → fnB nm (U.db (seenD k i (tkU k i 1 U))) = some q → rowBy q (codeV key) = some y → ∀ w' r, OS w' r (rowC y) 3 → (∀ b, owns r b → w.heap.size ≤ b) → XV dq w' g D R cur (tkU k i 1 U) O → FrP O w w' → K r 0 w') : S.txn_Mgr_Lookup g s nm key.st key.i key.s w K := by
  unfold S.txn_Mgr_Lookup
  refine newB fun w0 kb f0 s0 => ?_
  have kb : Blk w0 w.heap.size (valC key) := kb
  have nO : ¬ O w.heap.size := fun hb => by have := h.lt hb; omega
  refine xtake_spec (mode := 1) (h.fr0 f0) (.inl rfl) (fun hne w1 x1 F1 => ?_) fun k i x he hs hk ha hf hfb w1 q x1 F1 hq b1 => ?_
  · refine newB fun w2 a2 f2 s2 => st4 (s := nilS) a2 rfl fun w3 b3 f3 => ?_
    rw [if_pos (by simp only [bne_iff_ne, ne_eq]; exact hne)]
    have f23 : Fr 0 0 w1 w3 := f2.thenNew f3 (Nat.le_refl _)
    exact h1 hne w3 (x1.fr0 f23) (((FrP.of0 f0).trans F1).trans (FrP.of0 f23))
  · subst hs
    have l0 := f0.1.1
    have l1 := F1.1.1
    have kb1 := kb.frp F1 nO
    refine newB fun w2 a2 f2 s2 => st4 (s := fullS q x.cols.length) a2 rfl fun w3 b3 f3 => ?_
    rw [if_neg (by simp)]
    have f23 : Fr 0 0 w1 w3 := f2.thenNew f3 (Nat.le_refl _)
    have x3 := x1.fr0 f23
    have F3 : FrP O w w3 := ((FrP.of0 f0).trans F1).trans (FrP.of0 f23)
    have kb3 := kb1.fr f23 (by have := kb1.lt; omega)
    have e0 := tkU_db0 k i 1 U
    have hf1 : fI nm ((tkU k i 1 U).db 0) = some i := by rw [e0]; exact hf
    obtain ⟨r, hg, hr, ok⟩ := x3
    obtain ⟨t, Os, sw, cw, hgm, hO⟩ := hg
    rw [e0] at hgm
    have wO : ∀ {a b : World}, FrP Os a b → FrP O a b := fun {a b} F => F.mono fun b hb => (hO b).2 (.inr (.inl hb))
    have mk : ∀ {v : World}, GM dq v g t D R cur false Os (U.db 0) r sw cw → XV dq v g D R cur (tkU k i 1 U) O := fun {v} hv => ⟨r, ⟨t, Os, sw, cw, by rw [e0]; exact hv, hO⟩, hr, ok⟩
    have hcnt := hr.cnt ok hk
    have hwo := hr.wo k hk
    rw [e0] at hwo
    obtain ⟨tc, qs, a1, _, _, a4, _, okt, okq, hsch, hsee⟩ := hr.seen ok hk hf1
    rw [e0, hfb] at a1
    cases a1
    rw [tkU1_db] at a4
    have hkc := hck _ hfb
    obtain ⟨hko, hkt⟩ := chkVal0 hm hkc
    have hkt' : key.st = (qs.cols.getD qs.pk c0).st := by rw [sch_cols hsch, sch_pk hsch]; exact hkt
    have nOs : ¬ Os w.heap.size := fun hb => nO ((hO _).2 (.inr (.inl hb)))
    have hhs := hs_eq hwo hfb okt okq hsch hsee hko hkt
    refine ldB kb3 rfl (ldI kb3 rfl (ldStr kb3 rfl (gfind_spec hgm hk (by omega) fun w4 f4 => ?_)))
    have g4 := hgm.fr0 f4
    have kb4 := kb3.fr f4 (by have := kb3.lt; omega)
    have FF4 := F3.trans (FrP.of0 f4)
    have l4 := FF4.1.1
    rw [join_eq]
    cases hh : (fdC nm key (r.ws k)).2 with
    | true =>
      rw [if_pos rfl]
      obtain ⟨c, hc, h0⟩ := fdC_hit hh
      have hcl := List.mem_of_getElem? hc
      obtain ⟨e1, e2⟩ := (side0 hm (hwo.made c hcl)).1 h0
      obtain ⟨t', ht', hat⟩ := hwo.ch c hcl
      rw [← e1, hfb] at ht'
      cases ht'
      have ek := hgm.eq k hk
      have hy : ∃ y, (cw k)[(fdC nm key (r.ws k)).1]? = some y ∧ y.c = c := by
        rw [← ek, List.getElem?_map, Option.map_eq_some_iff] at hc
        rw [ek] at hc
        exact hc
      obtain ⟨y, hy, hyc⟩ := hy
      refine ⟨by omega, by omega, g4.ws hk (crAt (g4.wm k hk).arr hy fun g' hg' => ?_)⟩
      obtain ⟨us, b, hcell⟩ := cr_cell (g4.wm k hk).arr hg' hy
      refine ldB b (hcell 4 (by omega)) ?_
      rw [hyc]
      have hsv : hsP nm key (r.ws k) (U.db 0) = !c.gone := by unfold hsP; rw [hh, if_pos rfl, hc]
      refine ifb (fun hgone => ?_) fun hgone => ?_
      · refine h2 k i qs he rfl hk ha hf a4 ?_ w4 (mk g4) FF4
        rw [hsv, hgone] at hhs
        cases hrb : rowBy qs (codeV key) with
        | none => rfl
        | some z => rw [hrb] at hhs; cases hhs
      · dsimp only
        rw [if_pos rfl]
        refine ⟨by omega, by omega, g4.ws hk (crAt (g4.wm k hk).arr hy fun g'' hg'' => ?_)⟩
        obtain ⟨us2, b2, hcell2⟩ := cr_cell (g4.wm k hk).arr hg'' hy
        have hrow := (g4.wm k hk).row y (List.mem_of_getElem? hy)
        rw [hyc] at hrow
        obtain ⟨hty, hv, hkey⟩ := hat.rw hgone
        have hcl3 := hty.1
        have hc3 : x.cols.length ≤ 3 := by have := okt; unfold TbOk at this; exact this.2.1.2
        refine ldS b2 (hcell2 5 (by omega)) (cloneRow_spec hrow (by omega) fun w5 b5 f5 => ?_)
        refine h3 k i qs c.row he rfl hk ha hf a4 ?_ w5 _ (fullRow b5) (fun b hb => by rw [full_owns hb]; omega) (mk (g4.fr0 f5)) (FF4.trans (FrP.of0 f5))
        rw [rowBy_iff okq hko hkt', sch_pk hsch]
        exact ⟨(hsee _).2 (.inr ⟨c, hcl, e1.symm, hgone, rfl⟩), hkey.trans e2.symm⟩
    | false =>
      rw [if_neg (by simp)]
      dsimp only
      rw [if_neg (by simp)]
      have hno : ∀ c ∈ r.ws k, c.tab = nm → c.key ≠ key := fun c hc ht e => by
        have := (fd_iff (nm := nm) hwo.made hwo.srt hm).2 ⟨c, hc, ht, e⟩
        rw [hh] at this; cases this
      have hmd : mdLook nm key (U.db 0) = match rowBy x (codeV key) with | none => (9, []) | some y => (0, y) := by
        unfold mdLook
        rw [hfb]
        dsimp only
        rw [if_neg (by simp [hkc])]
        cases rowBy x (codeV key) with
        | none => rfl
        | some y => rfl
      have hrb : rowBy qs (codeV key) = rowBy x (codeV key) := by
        cases hx : rowBy x (codeV key) with
        | none =>
          cases hq' : rowBy qs (codeV key) with
          | none => rfl
          | some y =>
            exfalso
            obtain ⟨hy, hyk⟩ := (rowBy_iff okq hko hkt').1 hq'
            rw [sch_pk hsch] at hyk
            rcases (hsee y).1 hy with ⟨h1', _⟩ | ⟨c, hc, h1', h2', h3'⟩
            · have := (rowBy_iff okt hko hkt).2 ⟨h1', hyk⟩
              rw [hx] at this; cases this
            · obtain ⟨t', ht', hat⟩ := hwo.ch c hc
              rw [h1', hfb] at ht'
              cases ht'
              exact hno c hc h1' (by rw [← (hat.rw h2').2.2, h3']; exact hyk)
        | some y =>
          obtain ⟨hy, hyk⟩ := (rowBy_iff okt hko hkt).1 hx
          rw [rowBy_iff okq hko hkt', sch_pk hsch]
          exact ⟨(hsee y).2 (.inl ⟨hy, fun c hc ht => by rw [hyk]; exact hno c hc ht⟩), hyk⟩
      have g4d := g4.dr
      have kb4d := kb4.drew
      refine drew_ (g4d.ld (ldB kb4d rfl (ldI kb4d rfl (ldStr kb4d rfl (slook_spec g4d.sv hm (fun hne w5 sv5 F5 => ?_) fun hz w5 q5 sv5 F5 hq5 b5 => ?_)))))
      · have g5 := (g4d.sto sv5 ⟨F5, fun b hb => .inl hb⟩).1
        cases hx : rowBy x (codeV key) with
        | some y => rw [hmd, hx] at hne; exact absurd rfl hne
        | none =>
          rw [hmd, hx]
          exact h2 k i qs he rfl hk ha hf a4 (by rw [hrb]; exact hx) w5 (mk g5) (FF4.drew.trans (wO F5))
      · have g5 := (g4d.sto sv5 ⟨F5, fun b hb => .inl hb⟩).1
        cases hx : rowBy x (codeV key) with
        | none => rw [hmd, hx] at hz; cases hz
        | some y =>
          rw [hmd, hx] at b5 ⊢
          have e4 : w4.drew.heap.size = w4.heap.size := rfl
          exact h3 k i qs y he rfl hk ha hf a4 (by rw [hrb]; exact hx) w5 _ (fullRow b5) (fun b hb => by rw [full_owns hb]; omega) (mk g5) (FF4.drew.trans (wO F5))
end Go.Proofs.Qxb6500564aGreat
