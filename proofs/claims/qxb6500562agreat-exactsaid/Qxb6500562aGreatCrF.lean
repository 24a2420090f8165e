/-
  The real checker: statements.
-/
import Derived.Test.Qxb6500562aGreatCrE
namespace Go.Proofs.Qxb6500562aGreat
open Go.Den Go.Zip
set_option linter.unusedVariables false
set_option linter.unusedSimpArgs false
variable {α β : Type} {ns : List Nd} {w0 w w' : World} {P : Nat → Prop} {c ps tb p : Nat} {st : CS} {L : List (Nat × List Value)} {vs : List Value}

/-- Names stay in sight. -/
def VExt (a b : CS) : Prop := ∃ r, b.vs = a.vs ++ r
theorem VExt.refl (a : CS) : VExt a a := ⟨[], by simp⟩
theorem VExt.trans {a b c : CS} (h : VExt a b) (k : VExt b c) : VExt a c := by
  obtain ⟨r, hr⟩ := h
  obtain ⟨q, hq⟩ := k
  exact ⟨r ++ q, by rw [hq, hr, List.append_assoc]⟩
theorem VExt.of {a b : CS} (h : b.vs = a.vs) : VExt a b := ⟨[], by simp [h]⟩
theorem ckL_ext {f : Int → CS → CR Unit} (hf : ∀ x st u st', f x st = .ok (u, st') → VExt st st') : ∀ (l : List Int) (st : CS) (u : Unit) (st' : CS), ckL f l st = .ok (u, st') → VExt st st'
  | [], st, u, st', h => by cases h; exact VExt.refl _
  | x :: l, st, u, st', h => by
    obtain ⟨_, s1, e1, h⟩ := cb_inv h
    exact (hf _ _ _ _ e1).trans (ckL_ext hf l _ _ _ h)
theorem ckB_vs {f : Int → CS → CR Unit} (hf : ∀ x st u st', f x st = .ok (u, st') → VExt st st') {b : Int} {st st' : CS} {u : Unit} (h : ckB ns f b st = .ok (u, st')) : st'.vs = st.vs := by
  obtain ⟨_, s1, e1, h⟩ := cb_inv h
  cases h
  obtain ⟨r, hr⟩ := ckL_ext hf _ _ _ _ e1
  show s1.vs.take st.vs.length = st.vs
  rw [hr]; simp
theorem ckS_ext : ∀ (n : Nat) (x : Int) (st : CS) (u : Unit) (st' : CS), ckS ns n x st = .ok (u, st') → VExt st st'
  | 0, x, st, u, st', h => by cases h
  | n + 1, x, st, u, st', q => by
    have ih := ckS_ext n
    have ie := ckE_kp (ns := ns) ns.length
    unfold ckS at q
    generalize hnd : ndAt ns x = nd at *
    by_cases k3 : nd.kind = 3
    · rw [if_pos k3] at q
      obtain ⟨_, s1, e1, q⟩ := cb_inv q
      obtain ⟨_, s2, e2, q⟩ := cb_inv q
      cases q
      have := mayD_st e1
      subst this
      exact (VExt.of (is_kp ie e2).vs).trans ⟨_, rfl⟩
    rw [if_neg k3] at q
    by_cases k4 : nd.kind = 4
    · rw [if_pos k4] at q
      obtain ⟨_, s1, e1, q⟩ := cb_inv q
      exact (VExt.of (ie _ _ _ _ e1).vs).trans (VExt.of (is_kp ie q).vs)
    rw [if_neg k4] at q
    by_cases k5 : nd.kind = 5
    · rw [if_pos k5] at q
      obtain ⟨_, s1, e1, q⟩ := cb_inv q
      obtain ⟨_, s2, e2, q⟩ := cb_inv q
      have a := (VExt.of (is_kp ie e1).vs).trans (VExt.of (ckB_vs ih e2))
      split at q
      · cases q; exact a
      · exact a.trans (VExt.of (ckB_vs ih q))
    rw [if_neg k5] at q
    by_cases k6 : nd.kind = 6
    · rw [if_pos k6] at q
      obtain ⟨_, s1, e1, q⟩ := cb_inv q
      exact (VExt.of (is_kp ie e1).vs).trans (VExt.of (ckB_vs ih q))
    rw [if_neg k6] at q
    by_cases k7 : nd.kind = 7
    · rw [if_pos k7] at q; exact VExt.of (is_kp ie q).vs
    rw [if_neg k7] at q
    by_cases k8 : nd.kind = 8
    · rw [if_pos k8] at q; exact VExt.of (is_kp ie q).vs
    rw [if_neg k8] at q
    by_cases k9 : nd.kind = 9
    · rw [if_pos k9] at q
      obtain ⟨_, s1, e1, q⟩ := cb_inv q
      cases q
      exact VExt.of (ie _ _ _ _ e1).vs
    rw [if_neg k9] at q
    cases q; exact VExt.refl _
theorem CQ.lvs (h : CQ ns w0 P c ps tb st L w) : st.vs.Pairwise (fun a b => a.level ≤ b.level) ∧ ∀ v ∈ st.vs, v.level ≤ st.lev := by
  obtain ⟨f, bty, bre, _, _, _, g4, _⟩ := h.ex
  exact g4.lvs
theorem CQ.lev {m : Nat} {K : World → Prop} (h : CQ ns w0 P c ps tb st L w) (hm : m ≤ 400) (hv : ∀ v ∈ st.vs, v.level ≤ (m : Int)) (hK : ∀ w', CQ ns w0 P c ps tb { st with lev := m } L w' → K w') : St1 w ⟨c, 164, none⟩ (.int .i64 (m : Int)) K := by
  obtain ⟨f, bty, bre, g1, ⟨n1, n2, n3⟩, g3, g4, g5, g6⟩ := h.ex
  have hfl := h.inv.fl
  have hvl := vs_le h.inv
  refine stF g3 (by omega) fun u b F _ => hK u ?_
  refine ⟨h.good, h.le, ⟨h.inv.tl, h.inv.rl, h.inv.ti.of rfl rfl, h.inv.fl, h.inv.fnd, h.inv.fpp, h.inv.fpl, h.inv.fdn, h.inv.ci, h.inv.cr, hm⟩, _, bty, bre, g1.step0 (FrP.of F fun b h1 h2 => .inl (by omega)), ⟨n1, n2, n3⟩, b, ?_, g5.fr F (by omega), g6.fr F (by omega)⟩
  refine g4.far rfl rfl (fun j hj => by rw [fset_ne (by omega)]) (g4.vt.off (by omega)) (fun k hk => ?_) (by rw [fset_ne (by omega)]; exact g4.ni) (by rw [fset_ne (by omega)]; exact g4.nr) (by rw [fset_eq]) ⟨g4.lvs.1, hv⟩ hfl
  have hk : k < st.vs.length := hk
  rw [fset_ne (by omega), fset_ne (by omega), fset_ne (by omega)]
  exact g4.vp k hk
abbrev X0 := Nat → Int → World → (Bool → World → Prop) → Prop
def SS (ns : List Nd) (w0 : World) (P : Nat → Prop) (c ps tb : Nat) (R : X0) (n : Nat) (b : Int) : Prop :=
  ∀ (x lo : Int) st L w K, 0 ≤ lo → lo ≤ x → x < b → GI ns lo x → kSt (ndAt ns x).kind → (st.lev : Int) + x ≤ 300 → st.cur < st.fs.length → CQ ns w0 P c ps tb st L w → (∀ r w', CO ns w0 P c ps tb (ckS ns n x st) L w' → Rb (ckS ns n x st) r → K r w') → R c x w K
def SB (ns : List Nd) (w0 : World) (P : Nat → Prop) (c ps tb : Nat) (R : X0) (n : Nat) (b : Int) : Prop :=
  ∀ (x lo : Int) st L w K, 0 ≤ lo → lo ≤ x → x < b → GI ns lo x → (ndAt ns x).kind = 2 → (st.lev : Int) + x ≤ 300 → st.cur < st.fs.length → CQ ns w0 P c ps tb st L w → (∀ r w', CO ns w0 P c ps tb (ckB ns (ckS ns n) x st) L w' → Rb (ckB ns (ckS ns n) x st) r → K r w') → R c x w K
theorem rcstmt_body {Rbk Rs : X0} {n : Nat} {x lo : Int} {K : Bool → World → Prop} (hx : x < ns.length) (h0 : 0 ≤ lo) (h1 : lo ≤ x) (hg : GI ns lo x) (hk : kSt (ndAt ns x).kind) (hlv : (st.lev : Int) + x ≤ 300) (hcur : st.cur < st.fs.length)
    (hb : SB ns w0 P c ps tb Rbk n x) (h : CQ ns w0 P c ps tb st L w) (hK : ∀ r w', CO ns w0 P c ps tb (ckS ns (n + 1) x st) L w' → Rb (ckS ns (n + 1) x st) r → K r w') : B.check_Checker_stmt Rbk Rs c x w K := by
  unfold B.check_Checker_stmt
  have good := h.good
  have ho := hg x h1 (Int.le_refl _)
  have hs := (good x (by omega) hx).2
  obtain ⟨me, mi⟩ := rexpr_top ns w0 P c ps tb
  refine h.nd (k := 0) (by omega) hx (by omega) rfl ?_
  have etg : ckS ns (n + 1) x st = ckS ns (n + 1) x st := rfl
  conv at etg => rhs; unfold ckS
  generalize htg : ckS ns (n + 1) x st = tg at *
  have ie := ckE_kp (ns := ns) ns.length
  have bad : ∀ u q, CO ns w0 P c ps tb (.error q : CR Unit) L u → tg = .error q → K false u := fun u q hu ht => hK _ u (by rw [ht]; exact hu) (by rw [ht]; rfl)
  have done : ∀ u s1, CQ ns w0 P c ps tb s1 L u → tg = .ok ((), s1) → K true u := fun u s1 hu ht => hK _ u (by rw [ht]; exact hu) (by rw [ht]; rfl)
  -- the condition, or a part
  have part : ∀ (ty y lo' : Int) (u : World) (s1 : CS) (f : Unit → CS → CR Unit) (KK : World → Prop), 0 ≤ lo' → lo' ≤ y → y < x → GI ns lo' y → kE (ndAt ns y).kind → CQ ns w0 P c ps tb s1 L u → (tg = cb (isTy ns (ckE ns ns.length) y ty s1) f) →
      (∀ w2 s2, isTy ns (ckE ns ns.length) y ty s1 = .ok ((), s2) → CQ ns w0 P c ps tb s2 L w2 → tg = f () s2 → KK w2) → S.check_Checker_want c y ty u (fun r w => if (!r) = true then K false w else KK w) := by
    intro ty y lo' u s1 f KK h0' h1' h2' hg' hk' hu e hgo
    refine mi y lo' ty s1 L u _ h0' h1' (by omega) hg' hk' hu fun r w1 q1 r1 => ?_
    cases hv : isTy ns (ckE ns ns.length) y ty s1 with
    | error q =>
      rw [hv] at q1 e
      rw [r1.ff hv, if_pos (by rfl)]
      exact bad w1 q q1 e
    | ok tt =>
      obtain ⟨⟨⟩, s2⟩ := tt
      rw [r1.tt hv, if_neg (by decide)]
      rw [hv] at q1 e
      exact hgo w1 s2 hv q1 e
  refine if_k (fun k => ?_) fun k3 => ?_
  · rw [if_pos k] at etg
    obtain ⟨i1, i2⟩ := ho.f3 k
    have ia1 := i1.1
    have ia2 := i1.2.1
    refine rmay_spec h (by omega) hx (fun w2 e2 h2 => ?_) (fun w2 e1 q1 e2 h2 => ?_)
    · rw [if_neg (by decide)]
      rw [e2, cb_ok] at etg
      refine drew_ ?_
      have h2 := h2.drew
      generalize w2.drew = w2 at *
      refine h2.nd (k := 1) (by omega) hx (by omega) rfl ?_
      refine h2.nd (k := 5) (by omega) hx (by omega) rfl ?_
      obtain ⟨_, m1, m2⟩ := mayD_ok e2
      refine part _ _ lo w2 st _ _ h0 ia1 ia2 (hg.sub (by omega)) i1.2.2 h2 etg fun w3 s3 e3 h3 et => ?_
      have kp := is_kp ie e3
      refine rdecl_spec h3 (by omega) hx (by rw [kp.vs]; exact ⟨m1, m2⟩) i2 (by rw [kp.cur, kp.fs]; exact hcur) fun w4 h4 => ?_
      exact done w4 _ h4 et
    · rw [if_pos (by rfl)]
      rw [e2] at etg
      exact bad w2 (e1, q1) h2 etg
  rw [if_neg k3] at etg
  refine if_k (fun k => ?_) fun k4 => ?_
  · rw [if_pos k] at etg
    obtain ⟨i1, _, i2⟩ := ho.f4 k
    obtain ⟨g1, g2⟩ := hs.s2 (.inr (.inr (.inl k)))
    have ia1 := i1.1
    have ia2 := i1.2.1
    have ib2 := i2.2.1
    have ga := hg.sub (y := (ndAt ns x).a) (by omega)
    refine h.nd (k := 1) (by omega) hx (by omega) rfl ?_
    refine me _ lo st L w _ h0 ia1 (by omega) ga i1.2.2 h fun r1 w1 q1 r1' => ?_
    cases hv : ckE ns ns.length (ndAt ns x).a st with
    | error q =>
      rw [hv] at q1 r1' etg
      have r1' : r1 = -1 := r1'
      subst r1'
      rw [if_neg (by simp)]
      exact bad w1 q q1 etg
    | ok tt =>
      obtain ⟨t, s1⟩ := tt
      have hp := ckE_pos h h0 ia1 (by omega) ga i1.2.2 hv
      rw [hv] at q1 r1' etg
      have r1' : r1 = t := r1'
      subst r1'
      rw [if_pos (by simpa using hp.1)]
      rw [cb_ok] at etg
      have q1 : CQ ns w0 P c ps tb s1 L w1 := q1
      refine q1.nd (k := 2) (by omega) hx (by omega) rfl ?_
      refine mi _ ((ndAt ns x).a + 1) r1 s1 L w1 _ (by omega) (by omega) (by omega) g2 i2.2.2 q1 fun r2 w2 q2 r2' => ?_
      exact hK r2 w2 (by rw [etg]; exact q2) (by rw [etg]; exact r2')
  rw [if_neg k4] at etg
  refine if_k (fun k => ?_) fun k5 => ?_
  · rw [if_pos k] at etg
    obtain ⟨i1, i2, i3⟩ := ho.f5 k
    obtain ⟨g1, g2⟩ := hs.s2 (.inr (.inr (.inr (.inl k))))
    have ia1 := i1.1
    have ia2 := i1.2.1
    have ib2 := i2.2.1
    refine h.nd (k := 1) (by omega) hx (by omega) rfl ?_
    refine part _ _ lo w st _ _ h0 ia1 ia2 (hg.sub (by omega)) i1.2.2 h etg fun w3 s3 e3 h3 et => ?_
    have kp := (is_kp ie e3).toS
    refine h3.nd (k := 2) (by omega) hx (by omega) rfl ?_
    refine hb _ ((ndAt ns x).a + 1) s3 L w3 _ (by omega) (by omega) ib2 g2 i2.2.2 (by rw [kp.lev]; omega) (by rw [kp.cur, kp.fl]; exact hcur) h3 fun r4 w4 q4 r4' => ?_
    cases hv : ckB ns (ckS ns n) (ndAt ns x).b s3 with
    | error q =>
      rw [hv] at q4 et
      rw [r4'.ff hv, if_pos (by rfl)]
      exact bad w4 q q4 et
    | ok tt =>
      obtain ⟨⟨⟩, s5⟩ := tt
      have kp2 := ckB_kp (ckS_kp n) hv
      rw [r4'.tt hv, if_neg (by decide)]
      rw [hv] at q4
      rw [hv, cb_ok] at et
      have q4 : CQ ns w0 P c ps tb s5 L w4 := q4
      refine q4.nd (k := 3) (by omega) hx (by omega) rfl ?_
      by_cases hc : (ndAt ns x).c < 0
      · rw [if_pos (by simpa using hc)]
        rw [if_pos hc] at et
        exact done w4 s5 q4 et
      · rw [if_neg (by simpa using hc)]
        rw [if_neg hc] at et
        have hcn : (ndAt ns x).c ≠ -1 := by omega
        have i3 := i3.resolve_left hcn
        obtain ⟨g3, g4⟩ := hs.s5 k hcn
        have ic2 := i3.2.1
        refine q4.nd (k := 3) (by omega) hx (by omega) rfl ?_
        refine hb _ ((ndAt ns x).b + 1) s5 L w4 _ (by omega) (by omega) ic2 g4 i3.2.2 (by rw [kp2.lev, kp.lev]; omega) (by rw [kp2.cur, kp2.fl, kp.cur, kp.fl]; exact hcur) q4 fun r6 w6 q6 r6' => ?_
        exact hK r6 w6 (by rw [et]; exact q6) (by rw [et]; exact r6')
  rw [if_neg k5] at etg
  refine if_k (fun k => ?_) fun k6 => ?_
  · rw [if_pos k] at etg
    obtain ⟨i1, i2⟩ := ho.f6 k
    obtain ⟨g1, g2⟩ := hs.s2 (.inr (.inr (.inr (.inr k))))
    have ia1 := i1.1
    have ia2 := i1.2.1
    have ib2 := i2.2.1
    refine h.nd (k := 1) (by omega) hx (by omega) rfl ?_
    refine part _ _ lo w st _ _ h0 ia1 ia2 (hg.sub (by omega)) i1.2.2 h etg fun w3 s3 e3 h3 et => ?_
    have kp := (is_kp ie e3).toS
    refine h3.nd (k := 2) (by omega) hx (by omega) rfl ?_
    refine hb _ ((ndAt ns x).a + 1) s3 L w3 _ (by omega) (by omega) ib2 g2 i2.2.2 (by rw [kp.lev]; omega) (by rw [kp.cur, kp.fl]; exact hcur) h3 fun r4 w4 q4 r4' => ?_
    exact hK r4 w4 (by rw [et]; exact q4) (by rw [et]; exact r4')
  rw [if_neg k6] at etg
  refine if_k (fun k => ?_) fun k7 => ?_
  · rw [if_pos k] at etg
    have i1 := ho.f7 (.inl k)
    have ia1 := i1.1
    have ia2 := i1.2.1
    refine drew_ ?_
    have h := h.drew
    generalize w.drew = w at *
    refine h.nd (k := 1) (by omega) hx (by omega) rfl ?_
    obtain ⟨f, bty, bre, k1, k2, k3, k4, k5, k6⟩ := h.ex
    refine ldF k3 (by omega) k4.cur ?_
    refine h.fn (k := 1) (by omega) (by omega) (by omega) rfl ?_
    refine mi _ lo _ st L w _ h0 ia1 (by omega) (hg.sub (by omega)) i1.2.2 h fun r2 w2 q2 r2' => ?_
    exact hK r2 w2 (by rw [etg]; exact q2) (by rw [etg]; exact r2')
  rw [if_neg k7] at etg
  refine if_k (fun k => ?_) fun k8 => ?_
  · rw [if_pos k] at etg
    have i1 := ho.f7 (.inr (.inl k))
    have ia1 := i1.1
    have ia2 := i1.2.1
    refine h.nd (k := 1) (by omega) hx (by omega) rfl ?_
    refine mi _ lo _ st L w _ h0 ia1 (by omega) (hg.sub (by omega)) i1.2.2 h fun r2 w2 q2 r2' => ?_
    exact hK r2 w2 (by rw [etg]; exact q2) (by rw [etg]; exact r2')
  rw [if_neg k8] at etg
  refine if_k (fun k => ?_) fun k9 => ?_
  · rw [if_pos k] at etg
    have i1 := ho.f7 (.inr (.inr k))
    have ia1 := i1.1
    have ia2 := i1.2.1
    have ga := hg.sub (y := (ndAt ns x).a) (by omega)
    refine h.nd (k := 1) (by omega) hx (by omega) rfl ?_
    refine me _ lo st L w _ h0 ia1 (by omega) ga i1.2.2 h fun r1 w1 q1 r1' => ?_
    cases hv : ckE ns ns.length (ndAt ns x).a st with
    | error q =>
      rw [hv] at q1 r1' etg
      have r1' : r1 = -1 := r1'
      subst r1'
      exact bad w1 q q1 etg
    | ok tt =>
      obtain ⟨t, s1⟩ := tt
      have hp := ckE_pos h h0 ia1 (by omega) ga i1.2.2 hv
      rw [hv] at q1 r1' etg
      have r1' : r1 = t := r1'
      subst r1'
      rw [decide_eq_true hp.1]
      exact done w1 s1 q1 etg
  · rw [if_neg k9] at etg
    exact absurd hk (by unfold kSt; omega)
theorem rcblock_body {Rbk Rs : X0} {n : Nat} {x lo : Int} {K : Bool → World → Prop} (hx : x < ns.length) (h0 : 0 ≤ lo) (h1 : lo ≤ x) (hg : GI ns lo x) (hk : (ndAt ns x).kind = 2) (hlv : (st.lev : Int) + x ≤ 300) (hcur : st.cur < st.fs.length)
    (hs : SS ns w0 P c ps tb Rs n x) (h : CQ ns w0 P c ps tb st L w) (hK : ∀ r w', CO ns w0 P c ps tb (ckB ns (ckS ns n) x st) L w' → Rb (ckB ns (ckS ns n) x st) r → K r w') : B.check_Checker_block Rbk Rs c x w K := by
  unfold B.check_Checker_block
  have good := h.good
  have hle := h.le
  have ho := hg x h1 (Int.le_refl _)
  have hsg := (good x (by omega) hx).2
  obtain ⟨l, c1, c2⟩ := ho.f2 hk
  obtain ⟨l', c1', c3, _⟩ := hsg.sl (.inr (.inl hk))
  have := c1.uniq c1'
  subst this
  have c4 : ∀ y ∈ l, 0 ≤ y ∧ y < ns.length := fun y hy => by have := c2 y hy; have := this.1; have := (c2 y hy).2.1; omega
  have hkl : kids ns (ndAt ns x).a = l := kids_of c1 c3 c4
  have hnl : (vnames st).length = st.vs.length := by simp [vnames]
  have hlvs := h.lvs
  obtain ⟨f, bty, bre, k1, k2, k3, k4, k5, k6⟩ := h.ex
  have hn := k4.vt.n
  rw [hnl] at hn
  refine ldF k3 (by omega) hn ?_
  refine ldF k3 (by omega) k4.lv ?_
  rw [W_succ (by omega)]
  refine h.lev (by omega) (fun v hv => by have := hlvs.2 v hv; omega) fun w1 hw1 => ?_
  refine hw1.nd (k := 1) (by omega) hx (by omega) rfl ?_
  have etg : ckB ns (ckS ns n) x st = cb (ckL (ckS ns n) l { st with lev := st.lev + 1 }) fun _ s => .ok ((), { s with vs := s.vs.take st.vs.length, lev := st.lev }) := by unfold ckB; rw [hkl]
  rw [etg] at hK
  refine join_W (fun u => ∃ s1, ckL (ckS ns n) l { st with lev := st.lev + 1 } = .ok ((), s1) ∧ CQ ns w0 P c ps tb s1 L u) ?_ ?_
  · rintro u ⟨s1, e1, hu⟩
    obtain ⟨r, hr⟩ := ckL_ext (ckS_ext (ns := ns) n) _ _ _ _ e1
    have kp := ckL_kp (ckS_kp n) _ _ _ _ e1
    rw [e1, cb_ok] at hK
    have hr : s1.vs = st.vs ++ r := hr
    refine rundo_spec hu hr fun w2 h2 => ?_
    obtain ⟨f, bty, bre, k1, k2, k3, k4, k5, k6⟩ := h2.ex
    refine ldF k3 (by omega) k4.lv ?_
    have hlev : s1.lev = st.lev + 1 := kp.lev
    have e : W (((({ s1 with vs := st.vs } : CS).lev : Nat) : Int) - 1) = (st.lev : Int) := by
      show W ((s1.lev : Int) - 1) = _
      rw [hlev, W_id (by omega) (by omega)]; omega
    rw [e]
    refine h2.lev (m := st.lev) (by omega) hlvs.2 fun w3 h3 => ?_
    refine hK true w3 ?_ rfl
    have ht : s1.vs.take st.vs.length = st.vs := by rw [hr]; simp
    rw [ht]
    exact h3
  · intro J8 hJ8
    refine loopN (fun m v u => ∃ (l1 l2 : List Int) (st1 : CS) (lo' y : Int), v = (y, ()) ∧ m = l2.length ∧ Ch ns y l2 ∧ (∀ y ∈ l2, lo' ≤ y ∧ y < x ∧ kSt (ndAt ns y).kind) ∧ (∀ y, l2.head? = some y → GI ns lo' y) ∧ Segs ns l2 ∧ 0 ≤ lo' ∧ KpS { st with lev := st.lev + 1 } st1 ∧
        ckL (ckS ns n) l { st with lev := st.lev + 1 } = ckL (ckS ns n) l2 st1 ∧ CQ ns w0 P c ps tb st1 L u) l.length
      ⟨[], l, _, lo, _, rfl, rfl, c1, fun y hy => ⟨(c2 y hy).1, (c2 y hy).2.1, (c2 y hy).2.2⟩, fun y hy => hg.sub (by have := (c2 y (List.mem_of_head? hy)).2.1; omega), c3, h0, KpS.refl _, rfl, hw1⟩ ?_
    rintro m _ u ⟨l1, l2, st1, lo', y, rfl, rfl, hch, hr1, hr2, hr3, hlo', hkp, heq, hu⟩ Q hQ
    dsimp only
    cases l2 with
    | nil =>
      have hy : y = -1 := hch
      subst hy
      rw [if_neg (by simp)]
      exact hJ8 u ⟨st1, heq, hu⟩
    | cons y' l2 =>
      obtain ⟨e1, e2, e3⟩ := hch
      have e1 : y = y' := e1
      subst e1
      have hyr := hr1 y (.head _)
      rw [if_pos (by simpa using e2)]
      have hl1 : st1.lev = st.lev + 1 := hkp.lev
      refine hs y lo' st1 L u _ hlo' hyr.1 hyr.2.1 (hr2 y rfl) hyr.2.2 (by rw [hl1]; have := hyr.2.1; omega) (by rw [hkp.cur, hkp.fl]; exact hcur) hu fun r w2 q2 r2 => ?_
      have heq2 : ckL (ckS ns n) l { st with lev := st.lev + 1 } = cb (ckS ns n y st1) fun _ st => ckL (ckS ns n) l2 st := heq
      cases hv : ckS ns n y st1 with
      | error q =>
        rw [hv] at q2 heq2
        rw [r2.ff hv, if_pos (by rfl)]
        exact hK false w2 (by rw [heq2]; exact q2) (by rw [heq2]; rfl)
      | ok tt =>
        obtain ⟨⟨⟩, s2⟩ := tt
        rw [r2.tt hv, if_neg (by decide)]
        rw [hv] at q2
        rw [hv, cb_ok] at heq2
        have q2 : CQ ns w0 P c ps tb s2 L w2 := q2
        refine q2.nd (k := 4) e2 (by have := hyr.2.1; omega) (by omega) rfl ?_
        have hp := List.pairwise_cons.1 hr3.inc
        refine hQ l2.length _ w2 (by simp) ⟨[], l2, s2, y + 1, _, rfl, rfl, e3, fun z hz => ⟨by have := hp.1 z hz; omega, (hr1 z (.tail _ hz)).2⟩, fun z hz => ?_, hr3.2, by omega, hkp.trans (ckS_kp n _ _ _ _ hv), heq2, q2⟩
        cases l2 with
        | nil => cases hz
        | cons b l4 => cases hz; exact hr3.1.2
theorem rblock_all (ns : List Nd) (w0 : World) (P : Nat → Prop) (c ps tb : Nat) : SB ns w0 P c ps tb S.check_Checker_block ns.length ns.length := by
  let PB : Nat → Nat → Int → World → (Bool → World → Prop) → Prop := fun m c' x w K => ∃ (n : Nat) (lo : Int) (st : CS) (L : List (Nat × List Value)), c' = c ∧ m = x.toNat ∧ 0 ≤ lo ∧ lo ≤ x ∧ x < ns.length ∧ x ≤ n ∧ GI ns lo x ∧ (ndAt ns x).kind = 2 ∧ (st.lev : Int) + x ≤ 300 ∧ st.cur < st.fs.length ∧ CQ ns w0 P c ps tb st L w ∧ (∀ r w', CO ns w0 P c ps tb (ckB ns (ckS ns n) x st) L w' → Rb (ckB ns (ckS ns n) x st) r → K r w')
  let PS' : Nat → Nat → Int → World → (Bool → World → Prop) → Prop := fun m c' x w K => ∃ (n : Nat) (lo : Int) (st : CS) (L : List (Nat × List Value)), c' = c ∧ m = x.toNat ∧ 0 ≤ lo ∧ lo ≤ x ∧ x < ns.length ∧ x < n ∧ GI ns lo x ∧ kSt (ndAt ns x).kind ∧ (st.lev : Int) + x ≤ 300 ∧ st.cur < st.fs.length ∧ CQ ns w0 P c ps tb st L w ∧ (∀ r w', CO ns w0 P c ps tb (ckS ns n x st) L w' → Rb (ckS ns n x st) r → K r w')
  have hG : T.G106 PB PS' := by
    refine ⟨?_, ?_⟩
    · rintro m c' x w K ⟨n, lo, st, L, rfl, rfl, h0, h1, h2, h3, hg, hk, hlv, hc, h, hK⟩
      refine rcblock_body h2 h0 h1 hg hk hlv hc (fun x' lo' st' L' w' K' a0 a1 a2 a3 a4 a5 a6 a7 a8 => ?_) h hK
      exact ⟨x'.toNat, by omega, n, lo', st', L', rfl, rfl, a0, a1, by omega, by omega, a3, a4, a5, a6, a7, a8⟩
    · rintro m c' x w K ⟨n, lo, st, L, rfl, rfl, h0, h1, h2, h3, hg, hk, hlv, hc, h, hK⟩
      cases n with
      | zero => omega
      | succ n =>
        refine rcstmt_body h2 h0 h1 hg hk hlv hc (fun x' lo' st' L' w' K' a0 a1 a2 a3 a4 a5 a6 a7 a8 => ?_) h hK
        exact ⟨x'.toNat, by omega, n, lo', st', L', rfl, rfl, a0, a1, by omega, by omega, a3, a4, a5, a6, a7, a8⟩
  intro x lo st L w K h0 h1 h2 hg hk hlv hc h hK
  exact ⟨PB, PS', hG, x.toNat, ns.length, lo, st, L, rfl, rfl, h0, h1, h2, by omega, hg, hk, hlv, hc, h, hK⟩
end Go.Proofs.Qxb6500562aGreat
