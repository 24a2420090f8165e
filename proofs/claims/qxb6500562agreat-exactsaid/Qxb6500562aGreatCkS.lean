/-
  The model's checker: statements, blocks, bodies.
-/
import Derived.Test.Qxb6500562aGreatCkR
namespace Go.Proofs.Qxb6500562aGreat
open Go.Den Go.Zip
set_option linter.unusedVariables false
set_option linter.unusedSimpArgs false
variable {α β : Type} {ns : List Nd} {w0 w w' : World} {s tb p : Nat} {st : CS} {e q : Int} {L : List (Nat × List Value)} {vs : List Value} {nv : List Vr × Nat} {hds : List Int}

theorem Pre.of {st st' : CS} (h : Pre nv st) (h1 : st'.vs = st.vs) (h2 : st'.lev = st.lev) : Pre nv st' := ⟨by obtain ⟨r, hr⟩ := h.1; exact ⟨r, by rw [h1, hr]⟩, by rw [h2, h.2]⟩
theorem Pre.decl {x : Int} (h : Pre nv st) : Pre nv (decl ns x st) := ⟨by obtain ⟨r, hr⟩ := h.1; exact ⟨r ++ _, by show st.vs ++ _ = _; rw [hr, List.append_assoc]⟩, h.2⟩
theorem decl_heads (x : Int) (st : CS) : (decl ns x st).fs.map Fn.node = st.fs.map Fn.node := map_modify _ _ (fun f => (bump_keep _ _ f).1) _ _
theorem CM.ofE {o : CR α} (h : CM ns w0 s tb nv hds o L w) : CM ns w0 s tb nv hds o L w := h
theorem mcstmt_body {Rb Rs : Q0} {n : Nat} {x lo : Int} {K : World → Prop} (hx : x < ns.length) (h0 : 0 ≤ lo) (h1 : lo ≤ x) (hg : GI ns lo x) (hk : kSt (ndAt ns x).kind) (hlv : (st.lev : Int) + x ≤ 300) (hcur : st.cur < st.fs.length)
    (hb : SvB ns w0 s tb Rb n x) (hm : CMem ns w0 s tb st 0 0 L w) (hnv : Pre nv st) (hhd : st.fs.map Fn.node = hds) (hK : ∀ w', CM ns w0 s tb nv hds (ckS ns (n + 1) x st) L w' → K w') : B.checkm_st_stmt Rb Rs s x w K := by
  unfold B.checkm_st_stmt
  have good := hm.good
  have ho := hg x h1 (Int.le_refl _)
  have hs := (good x (by omega) hx).2
  obtain ⟨me, mi⟩ := mexpr_all ns w0 s tb
  refine hm.ndAll (by omega) hx fun p12 w1 hm1 => ?_
  refine ldI hm1.loc rfl ?_
  have etg : ckS ns (n + 1) x st = ckS ns (n + 1) x st := rfl
  conv at etg => rhs; unfold ckS
  generalize htg : ckS ns (n + 1) x st = tg at *
  have hcm : CM ns w0 s tb nv hds (.ok ((), st) : CR Unit) ((p12, ndV (ndAt ns x)) :: L) w1 := ⟨hm1, hnv, hhd⟩
  have ie := ckE_kp (ns := ns) ns.length
  refine if_k (fun k => ?_) fun k3 => ?_
  · rw [if_pos k] at etg
    obtain ⟨i1, i2⟩ := ho.f3 k
    refine ldStr hm1.loc rfl (ldI hm1.loc rfl (ldI hm1.loc rfl ?_))
    refine mfree_spec (x := x) hm1 (fun w2 e2 h2 => ?_) (fun w2 e1 q1 e2 hne h2 => ?_)
    · rw [if_pos rfl]
      rw [e2] at etg
      simp only [cb_ok] at etg
      refine ldI h2.loc rfl (ldI h2.loc rfl ?_)
      refine mi ns.length _ lo _ nv hds _ (.ok ((), st)) w2 _ h0 i1.1 (by have := i1.2.1; omega) (by have := i1.2.1; omega) (hg.sub (by have := i1.2.1; omega)) i1.2.2 ⟨h2, hnv, hhd⟩ fun w3 h3 => ?_
      simp only [cb_ok] at h3
      rcases hoe : isTy ns (ckE ns ns.length) (ndAt ns x).a (ndAt ns x).val st with ⟨e4, q4⟩ | ⟨u4, st4⟩
      · rw [hoe] at h3 etg
        refine h3.flag (fun e q h hne => ?_) (fun _ _ h => by cases h)
        rw [if_neg (by simpa using hne)]
        exact hK w3 (by rw [etg]; exact h3.tail)
      · have kp := is_kp ie hoe
        rw [hoe] at h3 etg
        refine h3.flag (fun e q h hne => by cases h) (fun _ _ _ => ?_)
        rw [if_pos (by rfl)]
        obtain ⟨_, m1, m2⟩ := mayD_ok e2
        refine mbind_spec h3.1 (by omega) hx (by rw [kp.vs]; exact ⟨m1, m2⟩) i2 (by rw [kp.cur, kp.fs]; exact hcur) fun w4 h4 => ?_
        refine hK w4 ?_
        rw [etg]
        exact ⟨h4.tail, h3.2.1.decl, by rw [decl_heads]; exact h3.2.2⟩
    · rw [if_neg (by simp)]
      rw [e2] at etg
      exact hK w2 (by rw [etg]; exact ⟨hne, st, h2.tail, hnv, hhd⟩)
  rw [if_neg k3] at etg
  refine if_k (fun k => ?_) fun k4 => ?_
  · rw [if_pos k] at etg
    obtain ⟨i1, _, i2⟩ := ho.f4 k
    obtain ⟨g1, g2⟩ := hs.s2 (.inr (.inr (.inl k)))
    refine ldI hm1.loc rfl ?_
    refine me ns.length _ lo nv hds _ _ w1 _ h0 i1.1 (by have := i1.2.1; omega) (by have := i1.2.1; omega) (hg.sub (by have := i1.2.1; omega)) i1.2.2 hcm fun r w3 h3 hr => ?_
    simp only [cb_ok] at h3 hr
    rcases hoe : ckE ns ns.length (ndAt ns x).a st with ⟨e4, q4⟩ | ⟨t, st4⟩
    · rw [hoe] at h3 etg
      refine h3.flag (fun e q h hne => ?_) (fun _ _ h => by cases h)
      rw [if_neg (by simpa using hne)]
      exact hK w3 (by rw [etg]; exact h3.tail)
    · rw [hoe] at h3 etg hr
      have hr : r = t := hr
      subst hr
      refine h3.flag (fun e q h hne => by cases h) (fun _ _ _ => ?_)
      rw [if_pos (by rfl)]
      refine ldI h3.1.loc rfl ?_
      refine mi ns.length _ ((ndAt ns x).a + 1) _ nv hds _ (.ok ((), st4)) w3 _ (by have := i1.1; omega) (by omega) (by have := i2.2.1; omega) (by have := i2.2.1; omega) g2 i2.2.2 h3.okv fun w4 h4 => ?_
      exact hK w4 (by rw [etg]; exact h4.tail)
  rw [if_neg k4] at etg
  refine if_k (fun k => ?_) fun k5 => ?_
  · rw [if_pos k] at etg
    obtain ⟨i1, i2, i3⟩ := ho.f5 k
    obtain ⟨g1, g2⟩ := hs.s2 (.inr (.inr (.inr (.inl k))))
    refine ldI hm1.loc rfl ?_
    refine mi ns.length _ lo _ nv hds _ _ w1 _ h0 i1.1 (by have := i1.2.1; omega) (by have := i1.2.1; omega) (hg.sub (by have := i1.2.1; omega)) i1.2.2 hcm fun w3 h3 => ?_
    simp only [cb_ok] at h3
    have kpa := fun {u st4} (h : isTy ns (ckE ns ns.length) (ndAt ns x).a 1 st = .ok (u, st4)) => (is_kp ie h).toS
    generalize hoa : isTy ns (ckE ns ns.length) (ndAt ns x).a 1 st = oa at *
    refine h3.flag (fun e q ho hne => ?_) (fun u4 st4 ho => ?_)
    · subst ho
      refine join_ ?_
      rw [if_neg (by simpa using hne)]
      refine h3.flag (fun e q h hne => ?_) (fun _ _ h => by cases h)
      rw [if_neg (by simpa using hne)]
      exact hK w3 (by rw [etg]; exact h3.tail)
    · subst ho
      simp only [cb_ok] at etg
      have kp := kpa rfl
      refine join_W (fun u => CM ns w0 s tb nv hds (ckB ns (ckS ns n) (ndAt ns x).b st4) ((p12, ndV (ndAt ns x)) :: L) u) ?_ ?_
      · intro u hu
        have kpb := fun {u st5} (h : ckB ns (ckS ns n) (ndAt ns x).b st4 = .ok (u, st5)) => ckB_kp (ckS_kp n) h
        generalize ckB ns (ckS ns n) (ndAt ns x).b st4 = ob at *
        refine hu.flag (fun e q ho hne => ?_) (fun u5 st5 ho => ?_)
        · subst ho
          rw [if_neg (by simpa using hne)]
          exact hK u (by rw [etg]; exact hu.tail)
        · subst ho
          rw [if_pos (by rfl)]
          simp only [cb_ok] at etg
          refine ldI hu.1.loc rfl ?_
          by_cases hc : (ndAt ns x).c < 0
          · rw [if_neg (by simpa using hc)]
            rw [if_pos hc] at etg
            exact hK u (by rw [etg]; exact hu.tail)
          · rw [if_pos (by simp only [decide_eq_true_eq]; exact Int.not_lt.1 hc)]
            rw [if_neg hc] at etg
            have hcn : (ndAt ns x).c ≠ -1 := by omega
            have i3 := i3.resolve_left hcn
            obtain ⟨g3, g4⟩ := hs.s5 k hcn
            have kp2 := kpb rfl
            refine ldI hu.1.loc rfl ?_
            refine hb _ ((ndAt ns x).b + 1) st5 nv hds _ u _ (by have := i2.1; omega) (by omega) i3.2.1 g4 i3.2.2 (by rw [kp2.lev, kp.lev]; have := i3.2.1; omega) (by rw [kp2.cur, kp2.fl, kp.cur, kp.fl]; exact hcur) hu.1 hu.2.1 hu.2.2 fun w6 h6 => ?_
            exact hK w6 (by rw [etg]; exact h6.tail)
      · intro J30 hJ30
        rw [if_pos (by rfl)]
        refine ldI h3.1.loc rfl ?_
        refine hb _ ((ndAt ns x).a + 1) st4 nv hds _ w3 _ (by have := i1.1; omega) (by omega) i2.2.1 g2 i2.2.2 (by rw [kp.lev]; have := i2.2.1; omega) (by rw [kp.cur, kp.fl]; exact hcur) h3.1 h3.2.1 h3.2.2 fun w6 h6 => ?_
        exact hJ30 w6 h6
  rw [if_neg k5] at etg
  refine if_k (fun k => ?_) fun k6 => ?_
  · rw [if_pos k] at etg
    obtain ⟨i1, i2⟩ := ho.f6 k
    obtain ⟨g1, g2⟩ := hs.s2 (.inr (.inr (.inr (.inr k))))
    refine ldI hm1.loc rfl ?_
    refine mi ns.length _ lo _ nv hds _ _ w1 _ h0 i1.1 (by have := i1.2.1; omega) (by have := i1.2.1; omega) (hg.sub (by have := i1.2.1; omega)) i1.2.2 hcm fun w3 h3 => ?_
    simp only [cb_ok] at h3
    have kpa := fun {u st4} (h : isTy ns (ckE ns ns.length) (ndAt ns x).a 1 st = .ok (u, st4)) => (is_kp ie h).toS
    generalize hoa : isTy ns (ckE ns ns.length) (ndAt ns x).a 1 st = oa at *
    refine h3.flag (fun e q ho hne => ?_) (fun u4 st4 ho => ?_)
    · subst ho
      rw [if_neg (by simpa using hne)]
      exact hK w3 (by rw [etg]; exact h3.tail)
    · subst ho
      simp only [cb_ok] at etg
      have kp := kpa rfl
      rw [if_pos (by rfl)]
      refine ldI h3.1.loc rfl ?_
      refine hb _ ((ndAt ns x).a + 1) st4 nv hds _ w3 _ (by have := i1.1; omega) (by omega) i2.2.1 g2 i2.2.2 (by rw [kp.lev]; have := i2.2.1; omega) (by rw [kp.cur, kp.fl]; exact hcur) h3.1 h3.2.1 h3.2.2 fun w6 h6 => ?_
      exact hK w6 (by rw [etg]; exact h6.tail)
  rw [if_neg k6] at etg
  refine if_k (fun k => ?_) fun k7 => ?_
  · rw [if_pos k] at etg
    have i1 := ho.f7 (.inl k)
    refine drew_ ?_
    have hm1 := hm1.drew
    generalize w1.drew = w1 at *
    refine ldI hm1.loc rfl ?_
    obtain ⟨bty, bre, sfs, svs, g1, g2, g3, g4, g5, g6, g7⟩ := hm1.ex
    have hfn := hm1.fn (i := (st.cur : Int)) (k := 1) (m := (fnAt st.fs (st.cur : Int)).ret) (K := fun Ret_40 => S.checkm_st_is s (ndAt ns x).a Ret_40 w1 (fun w => K w)) (by omega) (by omega) (by omega) rfl (by
      refine mi ns.length _ lo _ nv hds _ (.ok ((), st)) w1 _ h0 i1.1 (by have := i1.2.1; omega) (by have := i1.2.1; omega) (hg.sub (by have := i1.2.1; omega)) i1.2.2 ⟨hm1, hnv, hhd⟩ fun w3 h3 => ?_
      exact hK w3 (by rw [etg]; exact h3.tail))
    obtain ⟨sl, e1, e2⟩ := hfn
    refine ⟨sl, e1, ?_⟩
    refine ldI g3 rfl ?_
    exact e2
  rw [if_neg k7] at etg
  refine if_k (fun k => ?_) fun k8 => ?_
  · rw [if_pos k] at etg
    have i1 := ho.f7 (.inr (.inl k))
    refine ldI hm1.loc rfl ?_
    refine mi ns.length _ lo _ nv hds _ _ w1 _ h0 i1.1 (by have := i1.2.1; omega) (by have := i1.2.1; omega) (hg.sub (by have := i1.2.1; omega)) i1.2.2 hcm fun w3 h3 => ?_
    exact hK w3 (by rw [etg]; exact h3.tail)
  rw [if_neg k8] at etg
  refine if_k (fun k => ?_) fun k9 => ?_
  · rw [if_pos k] at etg
    have i1 := ho.f7 (.inr (.inr k))
    refine ldI hm1.loc rfl ?_
    refine me ns.length _ lo nv hds _ _ w1 _ h0 i1.1 (by have := i1.2.1; omega) (by have := i1.2.1; omega) (hg.sub (by have := i1.2.1; omega)) i1.2.2 hcm fun r w3 h3 hr => ?_
    refine hK w3 ?_
    rw [etg]
    exact (h3.val (f := fun _ => ())).tail
  · rw [if_neg k9] at etg
    exact absurd hk (by unfold kSt; omega)
theorem mcblock_body {Rb Rs : Q0} {n : Nat} {x lo : Int} {K : World → Prop} (hx : x < ns.length) (h0 : 0 ≤ lo) (h1 : lo ≤ x) (hg : GI ns lo x) (hk : (ndAt ns x).kind = 2) (hlv : (st.lev : Int) + x ≤ 300) (hcur : st.cur < st.fs.length)
    (hs : SvS ns w0 s tb Rs n x) (hm : CMem ns w0 s tb st 0 0 L w) (hnv : Pre nv st) (hhd : st.fs.map Fn.node = hds) (hK : ∀ w', CM ns w0 s tb nv hds (ckB ns (ckS ns n) x st) L w' → K w') : B.checkm_st_block Rb Rs s x w K := by
  unfold B.checkm_st_block
  have good := hm.good
  have hle := hm.le
  have ho := hg x h1 (Int.le_refl _)
  have hsg := (good x (by omega) hx).2
  obtain ⟨l, c1, c2⟩ := ho.f2 hk
  obtain ⟨l', c1', c3, _⟩ := hsg.sl (.inr (.inl hk))
  have := c1.uniq c1'
  subst this
  have hkl : kids ns (ndAt ns x).a = l := kids_of c1 c3 fun y hy => by have := c2 y hy; have := this.1; have := (c2 y hy).2.1; omega
  refine drew_ ?_
  have hm := hm.drew
  generalize w.drew = w at *
  obtain ⟨bty, bre, sfs, svs, g1, g2, g3, g4, g5, g6, g7⟩ := hm.ex
  have hl7 := g7.len
  rw [vrs_len] at hl7
  refine ldS g3 rfl (ldI g3 rfl (ldI g3 rfl (let_ ?_)))
  dsimp only
  rw [show svs.l = st.vs.length by omega]
  refine ldI g3 rfl ?_
  have hlv0 := hm.inv.lv
  rw [W_succ (by omega)]
  have hinv1 : CInv ns { st with lev := st.lev + 1 } := ⟨hm.inv.tl, hm.inv.rl, hm.inv.ti.of rfl rfl, hm.inv.fl, hm.inv.fnd, hm.inv.fpp, hm.inv.fpl, hm.inv.fdn, hm.inv.ci, hm.inv.cr, by show st.lev + 1 ≤ 400; omega⟩
  refine hm.reg (i := 8) (st' := { st with lev := st.lev + 1 }) (e' := 0) (q' := 0) (by omega) (fun _ _ _ _ => rfl) ⟨rfl, rfl, rfl, rfl⟩ hinv1 fun w1 hm1 => ?_
  refine hm1.nd (k := 1) (by omega) hx (by omega) rfl ?_
  have etg : ckB ns (ckS ns n) x st = cb (ckL (ckS ns n) l { st with lev := st.lev + 1 }) fun _ s => .ok ((), { s with vs := s.vs.take st.vs.length, lev := st.lev }) := by unfold ckB; rw [hkl]
  rw [etg] at hK
  have hkpl := fun {u st'} (h : ckL (ckS ns n) l { st with lev := st.lev + 1 } = .ok (u, st')) => ckL_kp (ckS_kp n) _ _ _ _ h
  generalize hol : ckL (ckS ns n) l { st with lev := st.lev + 1 } = ol at *
  refine join_W (fun u => CM ns w0 s tb (st.vs, st.lev + 1) hds ol L u) ?_ ?_
  · intro u hu
    obtain ⟨st2, e2, q2, hm2, ⟨⟨r, hr⟩, hlev⟩, hh2, hor⟩ := hu.mem
    dsimp only at hr hlev
    obtain ⟨_, _, _, _, b⟩ := hm2.rc
    refine ldI b rfl ?_
    rw [hlev, show W (((st.lev + 1 : Nat) : Int) - 1) = (st.lev : Int) by rw [W_id (by omega) (by omega)]; omega]
    have hinv2 : CInv ns { st2 with lev := st.lev } := ⟨hm2.inv.tl, hm2.inv.rl, hm2.inv.ti.of rfl rfl, hm2.inv.fl, hm2.inv.fnd, hm2.inv.fpp, hm2.inv.fpl, hm2.inv.fdn, hm2.inv.ci, hm2.inv.cr, hlv0⟩
    refine hm2.reg (i := 8) (st' := { st2 with lev := st.lev }) (e' := e2) (q' := q2) (by omega) (fun _ _ _ _ => rfl) ⟨rfl, rfl, rfl, rfl⟩ hinv2 fun w3 hm3 => ?_
    refine hm3.cut (pv := st.vs) (r := r) hr fun w4 hm4 => ?_
    refine hK w4 ?_
    have hpre : Pre nv { st2 with vs := st.vs, lev := st.lev } := hnv.of rfl rfl
    rcases hor with ⟨x', rfl, rfl, rfl⟩ | ⟨rfl, hne⟩
    · have : st2.vs.take st.vs.length = st.vs := by rw [hr]; simp
      simp only [cb_ok, this]
      exact ⟨hm4, hpre, hh2⟩
    · exact ⟨hne, _, hm4, hpre, hh2⟩
  · intro J13 hJ13
    refine loopN (fun m v u => ∃ (l2 : List Int) (aa lo2 : Int) (o1 : CR Unit), v = (aa, ()) ∧ m = l2.length ∧ Ch ns aa l2 ∧ 0 ≤ lo2 ∧ (∀ y ∈ l2, lo2 ≤ y ∧ y < x ∧ kSt (ndAt ns y).kind) ∧ (∀ y, l2.head? = some y → GI ns lo2 y) ∧ Segs ns l2 ∧ CM ns w0 s tb (st.vs, st.lev + 1) hds o1 L u ∧
        (∀ u' st', o1 = .ok (u', st') → KpS { st with lev := st.lev + 1 } st') ∧ ol = cb o1 fun _ st => ckL (ckS ns n) l2 st) l.length
      ⟨l, _, lo, .ok ((), { st with lev := st.lev + 1 }), rfl, rfl, c1, h0, fun y hy => ⟨(c2 y hy).1, (c2 y hy).2.1, (c2 y hy).2.2⟩, fun y hy => hg.sub (by have := (c2 y (List.mem_of_head? hy)).2.1; omega), c3, ⟨hm1, ⟨⟨[], by simp⟩, rfl⟩, hhd⟩, fun _ _ h => (by cases h; exact KpS.refl _), hol.symm⟩ ?_
    rintro m _ u ⟨l2, aa, lo2, o1, rfl, rfl, ch1, hlo2, hmem, hhead, hsegs, hu, hkp, hoe⟩ Q hQ
    dsimp only
    cases l2 with
    | nil =>
      have haa : aa = -1 := ch1
      rw [if_neg (by simp [haa])]
      refine hJ13 u ?_
      rw [hoe]
      refine hu.conv ?_
      rcases o1 with q1 | ⟨ts, st1⟩ <;> rfl
    | cons a l3 =>
      have haa : aa = a := ch1.1
      subst haa
      have ha0 := ch1.2.1
      obtain ⟨r1, r2, r3⟩ := hmem aa (.head _)
      rw [if_pos (by simpa using ha0)]
      refine hu.flag (fun e5 q5 ho5 hne5 => ?_) (fun u5 st5 ho5 => ?_)
      · subst ho5
        rw [if_neg (by simpa using hne5)]
        exact hJ13 u (by rw [hoe]; exact hu)
      · subst ho5
        rw [if_pos (by rfl)]
        have kp := hkp _ _ rfl
        have kl : st5.lev = st.lev + 1 := kp.lev
        refine hs aa lo2 st5 (st.vs, st.lev + 1) hds L u _ hlo2 r1 r2 (hhead aa rfl) r3 (by rw [kl]; omega) (by rw [kp.cur, kp.fl]; exact hcur) hu.1 hu.2.1 hu.2.2 fun w3 h3 => ?_
        refine h3.nd (k := 4) ha0 (by omega) (by omega) rfl ?_
        have hp := List.pairwise_cons.1 hsegs.inc
        refine hQ l3.length _ w3 (by simp) ⟨l3, _, aa + 1, ckS ns n aa st5, rfl, rfl, ch1.2.2, by omega, fun y hy => ⟨by have := hp.1 y hy; omega, (hmem y (.tail _ hy)).2⟩, fun y hy => ?_, hsegs.2, h3, fun u' st' e => kp.trans (ckS_kp n _ _ _ _ e), hoe⟩
        cases l3 with
        | nil => cases hy
        | cons b l4 => cases hy; exact hsegs.1.2
theorem mblock_all (ns : List Nd) (w0 : World) (s tb : Nat) : ∀ (n : Nat) (x lo : Int) st nv hds L w K, 0 ≤ lo → lo ≤ x → x < ns.length → x ≤ n → GI ns lo x → (ndAt ns x).kind = 2 → (st.lev : Int) + x ≤ 300 → st.cur < st.fs.length → CMem ns w0 s tb st 0 0 L w → Pre nv st → st.fs.map Fn.node = hds → (∀ w', CM ns w0 s tb nv hds (ckB ns (ckS ns n) x st) L w' → K w') → S.checkm_st_block s x w K := by
  let PB : Nat → Nat → Int → World → (World → Prop) → Prop := fun m s' x w K => ∃ (n : Nat) (lo : Int) (st : CS) (nv : List Vr × Nat) (hds : List Int) (L : List (Nat × List Value)), s' = s ∧ m = x.toNat ∧ 0 ≤ lo ∧ lo ≤ x ∧ x < ns.length ∧ x ≤ n ∧ GI ns lo x ∧ (ndAt ns x).kind = 2 ∧ (st.lev : Int) + x ≤ 300 ∧ st.cur < st.fs.length ∧ CMem ns w0 s tb st 0 0 L w ∧ Pre nv st ∧ st.fs.map Fn.node = hds ∧ (∀ w', CM ns w0 s tb nv hds (ckB ns (ckS ns n) x st) L w' → K w')
  let PS' : Nat → Nat → Int → World → (World → Prop) → Prop := fun m s' x w K => ∃ (n : Nat) (lo : Int) (st : CS) (nv : List Vr × Nat) (hds : List Int) (L : List (Nat × List Value)), s' = s ∧ m = x.toNat ∧ 0 ≤ lo ∧ lo ≤ x ∧ x < ns.length ∧ x < n ∧ GI ns lo x ∧ kSt (ndAt ns x).kind ∧ (st.lev : Int) + x ≤ 300 ∧ st.cur < st.fs.length ∧ CMem ns w0 s tb st 0 0 L w ∧ Pre nv st ∧ st.fs.map Fn.node = hds ∧ (∀ w', CM ns w0 s tb nv hds (ckS ns n x st) L w' → K w')
  have hG : T.G120 PB PS' := by
    refine ⟨?_, ?_⟩
    · rintro m s' x w K ⟨n, lo, st, nv, hds, L, rfl, rfl, h0, h1, h2, h3, hg, hk, hlv, hc, hm, hp, hh, hK⟩
      refine mcblock_body h2 h0 h1 hg hk hlv hc (fun x' lo' st' nv' hds' L' w' K' a0 a1 a2 a3 a4 a5 a6 a7 a8 a9 a10 => ?_) hm hp hh hK
      exact ⟨x'.toNat, by omega, n, lo', st', nv', hds', L', rfl, rfl, a0, a1, by omega, by omega, a3, a4, a5, a6, a7, a8, a9, a10⟩
    · rintro m s' x w K ⟨n, lo, st, nv, hds, L, rfl, rfl, h0, h1, h2, h3, hg, hk, hlv, hc, hm, hp, hh, hK⟩
      cases n with
      | zero => omega
      | succ n =>
        refine mcstmt_body h2 h0 h1 hg hk hlv hc (fun x' lo' st' nv' hds' L' w' K' a0 a1 a2 a3 a4 a5 a6 a7 a8 a9 a10 => ?_) hm hp hh hK
        exact ⟨x'.toNat, by omega, n, lo', st', nv', hds', L', rfl, rfl, a0, a1, by omega, by omega, a3, a4, a5, a6, a7, a8, a9, a10⟩
  intro n x lo st nv hds L w K h0 h1 h2 h3 hg hk hlv hc hm hp hh hK
  exact ⟨PB, PS', hG, x.toNat, n, lo, st, nv, hds, L, rfl, rfl, h0, h1, h2, h3, hg, hk, hlv, hc, hm, hp, hh, hK⟩
end Go.Proofs.Qxb6500562aGreat
