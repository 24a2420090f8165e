/-
  The model's checker: expressions, all.
-/
import Derived.Test.Qxb6500562aGreatCkO
namespace Go.Proofs.Qxb6500562aGreat
open Go.Den Go.Zip
set_option linter.unusedVariables false
set_option linter.unusedSimpArgs false
variable {α β : Type} {ns : List Nd} {w0 w w' : World} {s tb p : Nat} {st : CS} {e q : Int} {L : List (Nat × List Value)} {vs : List Value} {nv : List Vr × Nat} {hds : List Int}

theorem Rc.err {e : Int × Int} : Rc (.error e) (-1) := rfl
theorem mem_at {l : List Fn} {i : Int} (h0 : 0 ≤ i) (h1 : i < l.length) : fnAt l i ∈ l := by
  unfold fnAt
  rw [List.getD_eq_getElem?_getD, List.getElem?_eq_getElem (by omega)]
  exact List.getElem_mem _
theorem node_at {l : List Fn} {i : Int} (h0 : 0 ≤ i) (h1 : i < l.length) : (fnAt l i).node = (l.map Fn.node).getD i.toNat 0 := by
  unfold fnAt
  have : i.toNat < l.length := by omega
  simp [this]
theorem nameIx_range (l : List ByteArray) (nm : ByteArray) : nameIx l nm = -1 ∨ (0 ≤ nameIx l nm ∧ nameIx l nm < l.length) := by
  rcases lastN_spec l nm l.length with ⟨h, _⟩ | ⟨k, h, h2, _⟩
  · exact .inl h
  · right
    unfold nameIx
    rw [h]; omega
theorem mexpr_body {Ri : Q2} {Re : Q1} {n : Nat} {x lo : Int} {o : CR Unit} {K : Int → World → Prop} (hx : x < ns.length) (h0 : 0 ≤ lo) (h1 : lo ≤ x) (hg : GI ns lo x) (hk : kE (ndAt ns x).kind)
    (he : SvE ns w0 s tb Re n x) (hi : SvI ns w0 s tb Ri n x) (h : CM ns w0 s tb nv hds o L w) (hK : ∀ r w', CM ns w0 s tb nv hds (cb o fun _ st => ckE ns (n + 1) x st) L w' → Rc (cb o fun _ st => ckE ns (n + 1) x st) r → K r w') :
    B.checkm_st_expr Ri Re s x w K := by
  unfold B.checkm_st_expr
  refine h.flag (fun e q ho hne => ?_) (fun u st ho => ?_)
  · subst ho
    rw [if_pos (by simpa using hne)]
    exact hK _ w h rfl
  subst ho
  rw [if_neg (by simp)]
  obtain ⟨hm, hnv, hhd⟩ := h
  have good := hm.good
  have hle := hm.le
  simp only [cb_ok] at hK
  have ho := hg x h1 (Int.le_refl _)
  have hs := (good x (by omega) hx).2
  refine hm.ndAll (by omega) hx fun p13 w1 hm1 => ?_
  refine ldI hm1.loc rfl ?_
  have etg : ckE ns (n + 1) x st = ckE ns (n + 1) x st := rfl
  conv at etg => rhs; unfold ckE
  have hmk : ∀ y, ndAt ns y = ndAt ns y := fun _ => rfl
  generalize htg : ckE ns (n + 1) x st = tg at *
  have hcm : CM ns w0 s tb nv hds (.ok ((), st) : CR Unit) ((p13, ndV (ndAt ns x)) :: L) w1 := ⟨hm1, hnv, hhd⟩
  refine join_P (fun (t : Int) u => ∃ o1 : CR Unit, CM ns w0 s tb nv hds o1 ((p13, ndV (ndAt ns x)) :: L) u ∧ tg = cb o1 fun _ st => setTy x t st) ?_ ?_
  · rintro t u ⟨o1, hu, rfl⟩
    rcases o1 with ⟨e, q⟩ | ⟨_, st1⟩
    · refine hu.flag (fun e q h hne => ?_) (fun _ _ h => by cases h)
      rw [if_pos (by simpa using hne)]
      exact hK _ u hu.tail rfl
    · refine hu.flag (fun e q h hne => by cases h) (fun _ _ _ => ?_)
      rw [if_neg (by simp)]
      refine hu.1.setTy (by omega) hx fun w2 h2 => ?_
      exact hK _ w2 ⟨h2.tail, hu.2⟩ rfl
  intro J20 hJ20
  have bad : ∀ (u : World) (o1 : CR Int), CM ns w0 s tb nv hds o1 ((p13, ndV (ndAt ns x)) :: L) u → (∃ q, o1 = .error q) → tg = o1 → K (-1) u := by
    intro u o1 hu ⟨q, hq⟩ ht
    subst hq
    exact hK _ u (by rw [ht]; exact hu.tail) (by rw [ht]; rfl)
  refine if_k (fun k => ?_) fun k11 => ?_
  · rw [if_pos k] at etg
    exact hJ20 1 w1 ⟨_, hcm, etg⟩
  rw [if_neg k11] at etg
  refine if_k (fun k => ?_) fun k12 => ?_
  · -- a variable
    rw [if_pos k] at etg
    have hvl := vs_le hm1.inv
    have hnl : (vnames st).length = st.vs.length := by simp [vnames]
    obtain ⟨bty, bre, sfs, svs, g1, g2, g3, g4, g5, g6, g7⟩ := hm1.ex
    refine ldS g3 rfl ?_
    have hl := g7.len
    rw [vrs_len] at hl
    have hll : svs.l = st.vs.length := by omega
    refine let_ ?_
    dsimp only
    rw [hll, W_id (by omega) (by omega)]
    refine join_P (fun (i : Int) u => i = nameIx (vnames st) (ndAt ns x).name ∧ CMem ns w0 s tb st 0 0 ((p13, ndV (ndAt ns x)) :: L) u) ?_ ?_
    · rintro _ u ⟨rfl, hu⟩
      rcases nameIx_range (vnames st) (ndAt ns x).name with hneg | ⟨hp0, hp1⟩
      · rw [if_pos (by rw [hneg]; decide)]
        rw [if_pos (by rw [hneg]; decide)] at etg
        refine ldI hu.loc rfl ?_
        refine CM.fail (β := Int) (o := (.ok ((), st) : CR Unit)) ⟨hu, hnv, hhd⟩ (by decide) fun w2 h2 => ?_
        exact bad w2 _ h2 ⟨_, rfl⟩ etg
      · rw [if_neg (by simpa using hp0)]
        rw [if_neg (by omega)] at etg
        rw [hnl] at hp1
        obtain ⟨k', hk'⟩ : ∃ k' : Nat, nameIx (vnames st) (ndAt ns x).name = k' := ⟨(nameIx (vnames st) (ndAt ns x).name).toNat, by omega⟩
        rw [hk'] at etg hp1 ⊢
        have hkl : k' < st.vs.length := by omega
        obtain ⟨g, sv, junk, ⟨b1, b2, b3, hb⟩, c1, c2, c3⟩ := hu.vr hkl
        refine ldS hb rfl (ix c1 (by omega) (by dsimp only; omega) ?_)
        have cell : ∀ k, k < 4 → (st.vs.flatMap vrV ++ junk)[k' * 4 + k]? = (vrV (vrAt st.vs (k' : Int)))[k]? := fun k hk => by
          rw [List.getElem?_append_left (by rw [vrs_len]; omega), vrCell hkl hk]
        rw [Nat.zero_add, Int.toNat_natCast]
        refine ldI c3 (m := (vrAt st.vs (k' : Int)).ty) ((cell 1 (by omega)).trans rfl) ?_
        refine drew_ ?_
        have hu2 := hu.drew
        have hb := hb.drew
        have c3 := c3.drew
        generalize u.drew = u at *
        obtain ⟨bty', bre', sfs', svs', q1, q2, q3, q4, q5, q6, q7⟩ := hu2.ex
        refine ldS q3 rfl (ldS hb rfl (ix c1 (by omega) (by dsimp only; omega) ?_))
        refine ldI c3 (m := (vrAt st.vs (k' : Int)).slot) (by rw [Nat.zero_add]; exact (cell 2 (by omega)).trans rfl) ?_
        have hset := hu2.setRef (x := x) (t := (vrAt st.vs (k' : Int)).slot) (K := fun w => J20 (vrAt st.vs (k' : Int)).ty w) (by omega) hx fun w2 h2 => hJ20 _ w2 ⟨.ok ((), setRef x (vrAt st.vs (k' : Int)).slot st), ⟨h2, hnv, hhd⟩, etg⟩
        obtain ⟨sl, e1, e2⟩ := hset
        rw [q3.cell] at e1
        obtain ⟨sa, sll, sc⟩ := sl
        injection (Option.some.inj e1) with i1 i2 i3
        subst i1 i2 i3
        exact e2
    · intro J37 hJ37
      refine loopN (fun m v u => ∃ i : Nat, v = ((i : Int) - 1, ()) ∧ i ≤ st.vs.length ∧ m = i ∧ CMem ns w0 s tb st 0 0 ((p13, ndV (ndAt ns x)) :: L) u ∧ nameIx (vnames st) (ndAt ns x).name = lastN (vnames st) (ndAt ns x).name i) st.vs.length
        ⟨st.vs.length, rfl, by omega, rfl, hm1, by unfold nameIx; rw [hnl]⟩ ?_
      rintro m _ u ⟨i, rfl, hi', rfl, hu, hix⟩ Q hQ
      dsimp only
      refine drew_ ?_
      have hu := hu.drew
      generalize u.drew = u at *
      cases m with
      | zero =>
        rw [if_neg (by decide)]
        exact hJ37 _ u ⟨by rw [hix]; rfl, hu⟩
      | succ i =>
        rw [if_pos (by simp only [decide_eq_true_eq]; omega)]
        rw [show (((i + 1 : Nat) : Int) - 1) = (i : Int) by omega]
        have hkl : i < st.vs.length := by omega
        obtain ⟨g, sv, junk, ⟨b1, b2, b3, hb⟩, c1, c2, c3⟩ := hu.vr hkl
        refine ldS hb rfl (ix c1 (by omega) (by dsimp only; omega) ?_)
        refine ldStr c3 (m := (vrAt st.vs (i : Int)).name) ?_ ?_
        · rw [Nat.zero_add, Int.toNat_natCast]
          have : (st.vs.flatMap vrV ++ junk)[i * 4 + 0]? = (vrV (vrAt st.vs (i : Int)))[0]? := by rw [List.getElem?_append_left (by rw [vrs_len]; omega), vrCell hkl (by omega)]
          exact this.trans rfl
        refine ldStr hu.loc rfl ?_
        rw [strEq, ← vnames_at st i hkl]
        unfold lastN at hix
        by_cases hn : bt ((vnames st).getD i ⟨#[]⟩) = bt (ndAt ns x).name
        · rw [if_neg (by rw [decide_eq_true hn]; decide)]
          rw [if_pos hn] at hix
          exact hJ37 _ u ⟨hix.symm, hu⟩
        · rw [if_pos (by rw [decide_eq_false hn]; rfl)]
          rw [if_neg hn] at hix
          refine let_ ?_
          rw [W_id (by omega) (by omega)]
          exact hQ i _ u (by omega) ⟨i, rfl, by omega, rfl, hu, hix⟩
  rw [if_neg k12] at etg
  refine if_k (fun k => ?_) fun k13 => ?_
  · -- a call
    rw [if_pos k] at etg
    refine ldStr hm1.loc rfl ?_
    refine mfn_spec hm1 fun w2 hm2 => ?_
    have hnl : (fnames st).length = st.fs.length := by simp [fnames]
    rcases nameIx_range (fnames st) (ndAt ns x).name with hneg | ⟨hp0, hp1⟩
    · rw [if_pos (by rw [hneg]; decide)]
      rw [if_pos (by rw [hneg]; decide)] at etg
      refine ldI hm2.loc rfl ?_
      refine CM.fail (β := Int) (o := (.ok ((), st) : CR Unit)) ⟨hm2, hnv, hhd⟩ (by decide) fun w3 h3 => ?_
      exact bad w3 _ h3 ⟨_, rfl⟩ etg
    rw [if_neg (by simpa using hp0)]
    rw [if_neg (by omega)] at etg
    rw [hnl] at hp1
    generalize nameIx (fnames st) (ndAt ns x).name = f at *
    obtain ⟨l, c1, c2⟩ := ho.f13 k
    obtain ⟨l', c1', c3, _⟩ := hs.sl (.inr (.inr k))
    have := c1.uniq c1'
    subst this
    have hkl : kids ns (ndAt ns x).a = l := kids_of c1 c3 fun y hy => by have := c2 y hy; have := this.1; have := (c2 y hy).2.1; omega
    rw [hkl] at etg
    have hrow : RowE ns lo (x - 1) l := by
      refine ⟨fun y hy => ?_, fun y hy => ?_, c3⟩
      · obtain ⟨q1, q2, q3⟩ := c2 y hy
        exact ⟨q1, by omega, q3⟩
      · have hm : y ∈ l := List.mem_of_head? hy
        exact hg.sub (by have := (c2 y hm).2.1; omega)
    have hll : (l.length : Int) ≤ 200 := by
      have := inc_len (lo := 0) (hi := ns.length) c3.inc (fun y hy => by have := c2 y hy; have := this.1; have := (c2 y hy).2.1; omega) (by omega)
      omega
    refine ldI hm2.loc rfl ?_
    have hfn := mem_at hp0 hp1
    obtain ⟨fn1, fn2, fn3⟩ := hm2.inv.fnd _ hfn
    obtain ⟨fp1, fp2, fp3⟩ := hm2.inv.fpp _ hfn
    have fpl := hm2.inv.fpl _ hfn
    have hnode : ∀ st' : CS, st'.fs.map Fn.node = hds → f < st'.fs.length ∧ (fnAt st'.fs f).node = (fnAt st.fs f).node := fun st' h => by
      have h1 : st'.fs.length = st.fs.length := by have := congrArg List.length (h.trans hhd.symm); simpa using this
      refine ⟨by omega, ?_⟩
      rw [node_at hp0 (by omega), node_at hp0 hp1, h, hhd]
    -- the parameters
    obtain ⟨po1, po2⟩ := good (fnAt st.fs f).node fn1 fn2
    obtain ⟨⟨pl, pc1, pc2⟩, _, _⟩ := po1.f0 fn3
    obtain ⟨pl', pc1', pc3, _⟩ := po2.sl (.inl fn3)
    have := pc1.uniq pc1'
    subst this
    have hpk : kids ns (ndAt ns (fnAt st.fs f).node).a = pl := kids_of pc1 pc3 fun y hy => by have := pc2 y hy; have := this.1; have := (pc2 y hy).2.1; omega
    rw [hpk] at fpl
    have hptys : ptys ns (fnAt st.fs f) = pl.map fun q => (ndAt ns q).val := by unfold ptys; rw [hpk]
    rw [hptys] at etg
    have hargs := args_eo (hi := x - 1) (ckE_eo good n) (Int.le_refl _) l lo st
    generalize hoa : ckArgs (ckE ns n) l st = oa at *
    refine join_P (fun (k1 : Int) u => k1 = l.length ∧ CM ns w0 s tb nv hds oa ((p13, ndV (ndAt ns x)) :: L) u) ?_ ?_
    · rintro _ u ⟨rfl, hu⟩
      -- behind the arguments and their count
      refine join_W (fun u => CM ns w0 s tb nv hds oa ((p13, ndV (ndAt ns x)) :: L) u ∧ ∀ ts st', oa = .ok (ts, st') → (ts.length : Int) = (fnAt st.fs f).pi + (fnAt st.fs f).pr) ?_ ?_
      · rintro u ⟨hu, har⟩
        refine drew_ ?_
        have hu := hu.drew
        generalize u.drew = u at *
        obtain ⟨st2, e2, q2, hm3, hn3, hh3, hor⟩ := hu.mem
        obtain ⟨hf2, hnd2⟩ := hnode st2 hh3
        obtain ⟨bty, bre, sfs, svs, g1, g2, g3, g4, g5, g6, g7⟩ := hm3.ex
        refine ldS g3 rfl ?_
        refine hm3.fn (k := 0) hp0 hf2 (by omega) rfl ?_
        rw [hnd2]
        have hne : ns.length ≠ 0 := by omega
        have ht : Blk u tb (ns.flatMap ndV) := (g1.lc (tb, ns.flatMap ndV) (by simp [tloc, hne])).1
        simp only [tsl, if_neg hne]
        refine ix rfl fn1 (by omega) ?_
        refine ldI ht (m := (ndAt ns (fnAt st.fs f).node).a) ?_ ?_
        · obtain ⟨m', hm'⟩ : ∃ q : Nat, (fnAt st.fs f).node = q := ⟨(fnAt st.fs f).node.toNat, by omega⟩
          rw [Nat.zero_add, hm', Int.toNat_natCast, ndCell (by omega) (by omega)]; rfl
        refine ldI hu.loc rfl ?_
        have etg2 : tg = cb oa fun ts st' => match oddArg l ts (pl.map fun q => (ndAt ns q).val) with | some a => .error (17, psx ns a) | none => setTy x (fnAt st.fs f).ret (setRef x f st') := by
          rw [etg]
          refine cb_congr fun ts st' e => ?_
          rw [if_neg (by rw [har ts st' e]; simp)]
          cases oddArg l ts (pl.map fun q => (ndAt ns q).val) <;> rfl
        refine join_W (fun u => ∃ o1 : CR Unit, CM ns w0 s tb nv hds o1 ((p13, ndV (ndAt ns x)) :: L) u ∧ (∀ x' st', o1 = .ok (x', st') → (fnAt st'.fs f).ret = (fnAt st.fs f).ret) ∧ tg = cb o1 fun _ st' => setTy x (fnAt st.fs f).ret (setRef x f st')) ?_ ?_
        · rintro u ⟨o1, hu, hret, ht⟩
          obtain ⟨st3, e3, q3, hm4, hn4, hh4, hor4⟩ := hu.mem
          obtain ⟨hf3, _⟩ := hnode st3 hh4
          refine hm4.fn (k := 1) hp0 hf3 (by omega) rfl ?_
          refine hm4.setRef (by omega) hx fun w5 h5 => ?_
          rcases hor4 with ⟨x', rfl, rfl, rfl⟩ | ⟨rfl, hne4⟩
          · rw [hret _ _ rfl]
            exact hJ20 _ w5 ⟨.ok ((), setRef x f st3), ⟨h5, hn4, hh4⟩, ht⟩
          · exact hJ20 _ w5 ⟨.error (e3, q3), ⟨hne4, _, h5, hn4, hh4⟩, ht⟩
        · intro J68 hJ68
          refine loopN (fun m v u => ∃ (l2 pl2 ts2 : List Int) (qa aa : Int) (o1 : CR Unit), v = (qa, aa, ()) ∧ m = l2.length ∧ Ch ns aa l2 ∧ Ch ns qa pl2 ∧ (∀ y ∈ l2, y ∈ l) ∧ (∀ y ∈ pl2, y ∈ pl) ∧ CM ns w0 s tb nv hds o1 ((p13, ndV (ndAt ns x)) :: L) u ∧
              (∀ x' st', o1 = .ok (x', st') → l2.length = pl2.length ∧ (fnAt st'.fs f).ret = (fnAt st.fs f).ret ∧ (∀ i : Nat, (l2[i]?.bind fun y => st'.ty[y.toNat]?) = ts2[i]?) ∧ ts2.length = l2.length) ∧
              tg = cb o1 fun _ st' => match oddArg l2 ts2 (pl2.map fun q => (ndAt ns q).val) with | some a => .error (17, psx ns a) | none => setTy x (fnAt st.fs f).ret (setRef x f st')) l.length ?_ ?_
          · rcases oa with ⟨e4, q4⟩ | ⟨ts, st4⟩
            · exact ⟨l, pl, [], _, _, .error (e4, q4), rfl, rfl, c1, pc1, fun y hy => hy, fun y hy => hy, hu, fun _ _ h => (by cases h), etg2⟩
            · obtain ⟨a1, a2, a3, a4⟩ := hargs ts st4 h0 hrow (by omega) hm1.inv.ti hm1.inv.tl rfl
              have := har ts st4 rfl
              exact ⟨l, pl, ts, _, _, .ok ((), st4), rfl, rfl, c1, pc1, fun y hy => hy, fun y hy => hy, hu, fun _ _ h => (by cases h; exact ⟨by omega, by rw [a1.fs], a4, a2⟩), etg2⟩
          rintro m _ u ⟨l2, pl2, ts2, qa, aa, o1, rfl, rfl, ch1, ch2, hsub, psub, hu, hfacts, ht⟩ Q hQ
          dsimp only
          cases l2 with
          | nil =>
            have haa : aa = -1 := ch1
            rw [if_neg (by simp [haa])]
            have hodd : oddArg [] ts2 (pl2.map fun q => (ndAt ns q).val) = none := by cases ts2 <;> rfl
            rw [hodd] at ht
            exact hJ68 u ⟨o1, hu, fun x' st' e => (hfacts x' st' e).2.1, ht⟩
          | cons a l3 =>
            have haa : aa = a := ch1.1
            subst haa
            have ha0 := ch1.2.1
            have hal := c2 aa (hsub aa (.head _))
            have halt : aa < ns.length := by have := hal.2.1; omega
            rw [if_pos (by simpa using ha0)]
            refine hu.flag (fun e5 q5 ho5 hne5 => ?_) (fun x5 st5 ho5 => ?_)
            · subst ho5
              rw [if_neg (by simpa using hne5)]
              exact hJ68 u ⟨.error (e5, q5), hu, fun _ _ h => (by cases h), ht⟩
            · subst ho5
              rw [if_pos (by rfl)]
              obtain ⟨f1, f2, f3, f4⟩ := hfacts _ _ rfl
              cases pl2 with
              | nil => simp at f1
              | cons pq pl3 =>
                cases ts2 with
                | nil => simp at f4
                | cons t ts3 =>
                  have hqa : qa = pq := ch2.1
                  subst hqa
                  have hq0 := ch2.2.1
                  have hql := pc2 qa (psub qa (.head _))
                  have hqlt : qa < ns.length := by have := hql.2.1; omega
                  refine drew_ ?_
                  have hu := hu.drew
                  generalize u.drew = u at *
                  obtain ⟨hm5, hn5, hh5⟩ := hu
                  have htl := hm5.inv.tl
                  obtain ⟨bty, bre, sfs, svs, g1, g2, g3, g4, g5, g6, g7⟩ := hm5.ex
                  refine ldS g3 rfl (ix rfl ha0 (by dsimp only; omega) ?_)
                  have hty : st5.ty[aa.toNat]? = some t := by have := f3 0; simpa using this
                  refine ldA g4 hty ?_
                  refine hm5.nd (k := 5) hq0 hqlt (by omega) rfl ?_
                  have hodd : oddArg (aa :: l3) (t :: ts3) ((qa :: pl3).map fun q => (ndAt ns q).val) = if t = (ndAt ns qa).val then oddArg l3 ts3 (pl3.map fun q => (ndAt ns q).val) else some aa := rfl
                  rw [hodd] at ht
                  refine join_W (fun u => ∃ (o2 : CR Unit), CM ns w0 s tb nv hds o2 ((p13, ndV (ndAt ns x)) :: L) u ∧ (∀ x' st', o2 = .ok (x', st') → st' = st5) ∧ tg = cb o2 fun _ st' => match oddArg l3 ts3 (pl3.map fun q => (ndAt ns q).val) with | some a => .error (17, psx ns a) | none => setTy x (fnAt st.fs f).ret (setRef x f st')) ?_ ?_
                  · rintro u ⟨o2, hu2, hst5, ht2⟩
                    refine hu2.nd (k := 4) hq0 hqlt (by omega) rfl ?_
                    refine hu2.nd (k := 4) ha0 halt (by omega) rfl ?_
                    refine hQ l3.length _ u (by simp) ⟨l3, pl3, ts3, _, _, o2, rfl, rfl, ch1.2.2, ch2.2.2, fun y hy => hsub y (.tail _ hy), fun y hy => psub y (.tail _ hy), hu2, fun x' st' e => ?_, ht2⟩
                    have := hst5 x' st' e
                    subst this
                    exact ⟨by simpa using f1, f2, fun i => by have := f3 (i + 1); simpa using this, by simpa using f4⟩
                  · intro J88 hJ88
                    by_cases hte : t = (ndAt ns qa).val
                    · rw [if_neg (by simp [hte])]
                      rw [if_pos hte] at ht
                      exact hJ88 u ⟨.ok ((), st5), ⟨hm5, hn5, hh5⟩, fun _ _ h => (by cases h; rfl), ht⟩
                    · rw [if_pos (by simpa using hte)]
                      rw [if_neg hte] at ht
                      refine hm5.nd (k := 6) ha0 halt (by omega) rfl ?_
                      refine CM.fail (β := Unit) (o := (.ok ((), st5) : CR Unit)) ⟨hm5, hn5, hh5⟩ (by decide) fun w6 h6 => ?_
                      exact hJ88 w6 ⟨.error (17, psx ns aa), h6, fun _ _ h => (by cases h), ht⟩
      · intro J94 hJ94
        refine drew_ ?_
        have hu := hu.drew
        generalize u.drew = u at *
        refine hu.flag (fun e5 q5 ho5 hne5 => ?_) (fun ts st5 ho5 => ?_)
        · rw [if_neg (by simpa using hne5)]
          exact hJ94 u ⟨hu, fun ts st' h => by rw [ho5] at h; cases h⟩
        · subst ho5
          rw [if_pos (by rfl)]
          obtain ⟨a1, a2, a3, a4⟩ := hargs ts st5 h0 hrow (by omega) hm1.inv.ti hm1.inv.tl rfl
          have hu' := hu
          obtain ⟨hm5, hn5, hh5⟩ := hu
          refine hm5.fn (k := 2) hp0 (by rw [a1.fs]; exact hp1) (by omega) rfl ?_
          refine hm5.fn (k := 3) hp0 (by rw [a1.fs]; exact hp1) (by omega) rfl ?_
          rw [a1.fs, W_id (by omega) (by omega)]
          simp only [cb_ok] at etg
          by_cases har : (l.length : Int) = (fnAt st.fs f).pi + (fnAt st.fs f).pr
          · rw [if_neg (by simp [har])]
            exact hJ94 u ⟨hu', fun ts' st' h => by cases h; rw [a2]; exact har⟩
          · rw [if_pos (by simpa using har)]
            rw [if_pos (by rw [a2]; exact har)] at etg
            refine ldI hm5.loc rfl ?_
            refine CM.fail (β := Int) (o := (.ok (ts, st5) : CR (List Int))) hu' (by decide) fun w6 h6 => ?_
            exact bad w6 _ h6 ⟨_, rfl⟩ etg
    · intro J106 hJ106
      refine loopN (fun m v u => ∃ (l2 : List Int) (kk : Nat) (aa : Int) (o1 : CR (List Int)) (lo2 : Int), v = ((kk : Int), aa, ()) ∧ m = l2.length ∧ kk + l2.length = l.length ∧ Ch ns aa l2 ∧ 0 ≤ lo2 ∧ RowE ns lo2 (x - 1) l2 ∧ CM ns w0 s tb nv hds o1 ((p13, ndV (ndAt ns x)) :: L) u ∧
          oa = cb o1 fun ts st1 => cb (ckArgs (ckE ns n) l2 st1) fun ts2 st2 => .ok (ts ++ ts2, st2)) l.length
        ⟨l, 0, _, .ok ([], st), lo, rfl, rfl, by omega, c1, h0, hrow, ⟨hm2, hnv, hhd⟩, ?_⟩ ?_
      · simp only [cb_ok]
        rw [hoa]
        rcases oa with q1 | ⟨ts, st1⟩ <;> rfl
      rintro m _ u ⟨l2, kk, aa, o1, lo2, rfl, rfl, hkk, ch1, hlo2, hr2, hu, hoe⟩ Q hQ
      dsimp only
      cases l2 with
      | nil =>
        have haa : aa = -1 := ch1
        rw [if_neg (by simp [haa])]
        simp only [List.length_nil, Nat.add_zero] at hkk
        refine hJ106 _ u ⟨by rw [hkk], ?_⟩
        rw [hoe]
        refine hu.conv ?_
        rcases o1 with q1 | ⟨ts, st1⟩
        · rfl
        · simp [ckArgs]
      | cons a l3 =>
        have haa : aa = a := ch1.1
        subst haa
        have ha0 := ch1.2.1
        obtain ⟨r1, r2, r3⟩ := hr2.1 aa (.head _)
        rw [if_pos (by simpa using ha0)]
        refine he aa lo2 nv hds _ (cb o1 fun _ st => .ok ((), st)) u _ hlo2 r1 (by omega) (hr2.2.1 aa rfl) r3 (hu.val (f := fun _ => ())) fun r109 w3 h3 hr3 => ?_
        refine let_ ?_
        simp only [List.length_cons] at hkk
        rw [W_succ (by omega)]
        refine h3.nd (k := 4) ha0 (by omega) (by omega) rfl ?_
        have e3 : (cb (cb o1 fun _ st => (.ok ((), st) : CR Unit)) fun _ st => ckE ns n aa st) = cb o1 fun _ st => ckE ns n aa st := by rw [cb_assoc]; rfl
        rw [e3] at h3
        refine hQ l3.length _ w3 (by simp) ⟨l3, kk + 1, _, cb o1 fun ts st1 => cb (ckE ns n aa st1) fun t st2 => .ok (ts ++ [t], st2), aa + 1, rfl, rfl, by omega, ch1.2.2, by omega, hr2.tail, ?_, ?_⟩
        · rcases o1 with ⟨e4, q4⟩ | ⟨ts, st1⟩
          · exact h3
          · simp only [cb_ok] at h3 ⊢
            exact h3.val (f := fun t => ts ++ [t])
        · rw [hoe]
          rcases o1 with ⟨e4, q4⟩ | ⟨ts, st1⟩
          · rfl
          · simp only [cb_ok, ckArgs, cb_assoc, List.append_assoc, List.cons_append, List.nil_append]
  rw [if_neg k13] at etg
  refine if_k (fun k => ?_) fun k14 => ?_
  · -- an index
    rw [if_pos k] at etg
    obtain ⟨i1, i2⟩ := ho.f14 k
    obtain ⟨g1, g2⟩ := hs.s2 (.inl k)
    refine ldI hm1.loc rfl ?_
    refine he _ lo nv hds _ _ w1 _ h0 i1.1 i1.2.1 (hg.sub (by have := i1.2.1; omega)) i1.2.2 hcm fun r w2 h2 hr => ?_
    simp only [cb_ok] at h2 hr
    have heo := ckE_eo good n (ndAt ns x).a lo st
    refine let_ ?_
    refine join_W (fun u => ∃ o1 : CR Unit, CM ns w0 s tb nv hds o1 ((p13, ndV (ndAt ns x)) :: L) u ∧ tg = cb o1 fun _ st => cb (isTy ns (ckE ns n) (ndAt ns x).b 0 st) fun _ st => setTy x (W (r - 2)) st) ?_ ?_
    · rintro u ⟨o1, hu, ht⟩
      refine ldI hu.loc rfl ?_
      refine hi _ ((ndAt ns x).a + 1) 0 nv hds _ o1 u _ (by have := i1.1; omega) (by omega) i2.2.1 g2 i2.2.2 hu fun w3 h3 => ?_
      exact hJ20 _ w3 ⟨_, h3, by rw [ht, cb_assoc]⟩
    · intro J119 hJ119
      rcases hoe : ckE ns n (ndAt ns x).a st with ⟨e4, q4⟩ | ⟨t, st4⟩
      · rw [hoe] at h2 etg hr
        refine h2.flag (fun e q h hne => ?_) (fun _ _ h => by cases h)
        rw [if_neg (by simpa using hne)]
        exact hJ119 w2 ⟨.error (e4, q4), h2, etg⟩
      · have a1 := heo t st4 h0 i1.1 (by have := i1.2.1; omega) (hg.sub (by have := i1.2.1; omega)) i1.2.2 hm1.inv.ti hm1.inv.tl hoe
        rw [hoe] at h2 etg hr
        have hr : r = t := hr
        subst hr
        have hty := a1.ty
        simp only [cb_ok] at etg
        have hw : W (r - 2) = r - 2 := W_id (by have := hty.1; omega) (by have := hty.2; omega)
        refine h2.flag (fun e q h hne => by cases h) (fun _ _ _ => ?_)
        rw [if_pos (by rfl), hw]
        by_cases ht2 : r < 2
        · rw [if_pos (by simp only [decide_eq_true_eq]; omega)]
          rw [if_pos ht2] at etg
          refine ldI h2.1.loc rfl ?_
          refine CM.fail (β := Int) h2 (by decide) fun w6 h6 => ?_
          exact bad w6 _ h6 ⟨_, rfl⟩ etg
        · rw [if_neg (by simp only [decide_eq_true_eq]; omega)]
          rw [if_neg ht2] at etg
          exact hJ119 w2 ⟨.ok ((), st4), h2, by rw [etg, hw]; rfl⟩
  rw [if_neg k14] at etg
  refine if_k (fun k => ?_) fun k15 => ?_
  · rw [if_pos k] at etg
    obtain ⟨i1, i2⟩ := ho.f15 k
    refine ldI hm1.loc rfl ?_
    by_cases hv : (ndAt ns x).val < 2
    · rw [if_pos (by simpa using hv)]
      rw [if_pos hv] at etg
      refine ldI hm1.loc rfl ?_
      refine CM.fail (β := Int) hcm (by decide) fun w6 h6 => ?_
      exact bad w6 _ h6 ⟨_, rfl⟩ etg
    · rw [if_neg (by simpa using hv)]
      rw [if_neg hv] at etg
      refine ldI hm1.loc rfl ?_
      refine hi _ lo 0 nv hds _ _ w1 _ h0 i1.1 i1.2.1 (hg.sub (by have := i1.2.1; omega)) i1.2.2 hcm fun w3 h3 => ?_
      exact hJ20 _ w3 ⟨_, h3, etg⟩
  rw [if_neg k15] at etg
  refine if_k (fun k => ?_) fun k16 => ?_
  · rw [if_pos k] at etg
    have i1 := ho.f16 k
    refine ldI hm1.loc rfl ?_
    refine he _ lo nv hds _ _ w1 _ h0 i1.1 i1.2.1 (hg.sub (by have := i1.2.1; omega)) i1.2.2 hcm fun r w2 h2 hr => ?_
    simp only [cb_ok] at h2 hr
    have lenfail : r < 2 → tg = cb (ckE ns n (ndAt ns x).a st) (fun t st => .error (17, psx ns (ndAt ns x).a)) → (Drew w2 fun w =>
                  LdS w ⟨s, 0, none⟩ fun t_129 =>
                  LdI .i64 w ⟨p13, 1, none⟩ fun A_130 =>
                  Ix t_129.a t_129.l A_130 fun b131 o132 =>
                  LdI .i64 w ⟨b131, o132 + Int.toNat A_130 * 8 + 6, none⟩ fun Pos_133 =>
                  S.checkm_st_fail s 17 Pos_133 w (fun r134 w =>
                  J20 0 w)) := by
      intro hr2 ht
      refine drew_ ?_
      have h2 := h2.drew
      generalize w2.drew = w2 at *
      obtain ⟨st3, e3, q3, hm4, hn4, hh4, hor4⟩ := h2.mem
      obtain ⟨bty, bre, sfs, svs, g1, g2, g3, g4, g5, g6, g7⟩ := hm4.ex
      have hne : ns.length ≠ 0 := by omega
      have htb : Blk w2 tb (ns.flatMap ndV) := (g1.lc (tb, ns.flatMap ndV) (by simp [tloc, hne])).1
      refine ldS g3 rfl (ldI h2.loc rfl ?_)
      have ia := i1.1
      have ib := i1.2.1
      simp only [tsl, if_neg hne]
      refine ix rfl (by show 0 ≤ (ndAt ns x).a; omega) (by show (ndAt ns x).a < _; omega) ?_
      refine ldI htb (m := (ndAt ns (ndAt ns x).a).pos) ?_ ?_
      · obtain ⟨m', hm'⟩ : ∃ q : Nat, (ndAt ns x).a = q := ⟨(ndAt ns x).a.toNat, by omega⟩
        show (ns.flatMap ndV)[0 + (ndAt ns x).a.toNat * 8 + 6]? = _
        rw [Nat.zero_add, hm', Int.toNat_natCast, ndCell (by omega) (by omega)]; rfl
      refine CM.fail (β := Unit) h2 (by decide) fun w6 h6 => ?_
      refine hJ20 0 w6 ⟨_, h6, ?_⟩
      rw [ht, cb_assoc]; rfl
    rcases hoe : ckE ns n (ndAt ns x).a st with ⟨e4, q4⟩ | ⟨t, st4⟩
    · have hr' : r = -1 := by rw [hoe] at hr; exact hr
      rw [if_pos (by rw [hr']; decide)]
      exact lenfail (by omega) (by rw [etg, hoe]; rfl)
    · have hr' : r = t := by rw [hoe] at hr; exact hr
      by_cases ht2 : r < 2
      · rw [if_pos (by simpa using ht2)]
        refine lenfail ht2 ?_
        rw [etg, hoe]
        simp only [cb_ok]
        rw [if_pos (by omega)]
      · rw [if_neg (by simpa using ht2)]
        rw [hoe] at h2 etg
        simp only [cb_ok] at etg
        rw [if_neg (by omega)] at etg
        exact hJ20 0 w2 ⟨.ok ((), st4), h2, etg⟩
  rw [if_neg k16] at etg
  refine if_k (fun k => ?_) fun k19 => ?_
  · rw [if_pos k] at etg
    obtain ⟨i1, i2⟩ := ho.f19 k
    refine ldI hm1.loc rfl ?_
    refine join_P (fun (t : Int) u => t = (if (ndAt ns x).val = 39 then 1 else 0) ∧ u = w1) ?_ ?_
    · rintro _ u ⟨rfl, rfl⟩
      refine ldI hm1.loc rfl ?_
      refine hi _ lo _ nv hds _ _ u _ h0 i1.1 i1.2.1 (hg.sub (by have := i1.2.1; omega)) i1.2.2 hcm fun w3 h3 => ?_
      exact hJ20 _ w3 ⟨_, h3, etg⟩
    · intro J hJ
      refine if_k (fun h => hJ _ _ ⟨by rw [if_pos h], rfl⟩) fun h => hJ _ _ ⟨by rw [if_neg h], rfl⟩
  rw [if_neg k19] at etg
  refine if_k (fun k => ?_) fun k18 => ?_
  · rw [if_pos k] at etg
    obtain ⟨i1, i2, v1, v2⟩ := ho.f18 k
    obtain ⟨g1, g2⟩ := hs.s2 (.inr (.inl k))
    refine ldI hm1.loc rfl ?_
    have two : ∀ (ta tb' r : Int), tg = (cb (isTy ns (ckE ns n) (ndAt ns x).a ta st) fun _ st => cb (isTy ns (ckE ns n) (ndAt ns x).b tb' st) fun _ st => setTy x r st) →
        (LdI .i64 w1 ⟨p13, 1, none⟩ fun A => Ri s A ta w1 (fun w => LdI .i64 w ⟨p13, 2, none⟩ fun B => Ri s B tb' w (fun w => J20 r w))) := by
      intro ta tb' r ht
      refine ldI hm1.loc rfl ?_
      refine hi _ lo ta nv hds _ _ w1 _ h0 i1.1 i1.2.1 (hg.sub (by have := i1.2.1; omega)) i1.2.2 hcm fun w3 h3 => ?_
      refine ldI h3.loc rfl ?_
      refine hi _ ((ndAt ns x).a + 1) tb' nv hds _ _ w3 _ (by have := i1.1; omega) (by omega) i2.2.1 g2 i2.2.2 h3 fun w4 h4 => ?_
      exact hJ20 _ w4 ⟨_, h4, by rw [ht, cb_assoc]; rfl⟩
    refine join_P (fun (j : Bool) u => u = w1 ∧ (j = true ↔ (ndAt ns x).val = 38 ∨ (ndAt ns x).val = 37)) ?_ ?_
    · rintro j u ⟨rfl, hj⟩
      by_cases hl : (ndAt ns x).val = 38 ∨ (ndAt ns x).val = 37
      · rw [if_pos (hj.2 hl)]
        rw [if_pos hl] at etg
        exact two 1 1 1 etg
      rw [if_neg (fun e => hl (hj.1 e))]
      rw [if_neg hl] at etg
      refine join_P (fun (j : Bool) v => v = u ∧ (j = true ↔ (ndAt ns x).val = 26 ∨ (ndAt ns x).val = 27)) ?_ ?_
      · rintro j v ⟨rfl, hj⟩
        by_cases hq : (ndAt ns x).val = 26 ∨ (ndAt ns x).val = 27
        · rw [if_pos (hj.2 hq)]
          rw [if_pos hq] at etg
          refine ldI hm1.loc rfl ?_
          refine he _ lo nv hds _ _ v _ h0 i1.1 i1.2.1 (hg.sub (by have := i1.2.1; omega)) i1.2.2 hcm fun r w2 h2 hr => ?_
          simp only [cb_ok] at h2 hr
          refine join_W (fun u => ∃ o1 : CR Unit, CM ns w0 s tb nv hds o1 ((p13, ndV (ndAt ns x)) :: L) u ∧ tg = cb o1 fun _ st => cb (isTy ns (ckE ns n) (ndAt ns x).b r st) fun _ st => setTy x 1 st) ?_ ?_
          · rintro u ⟨o1, hu, ht⟩
            refine ldI hu.loc rfl ?_
            refine hi _ ((ndAt ns x).a + 1) r nv hds _ o1 u _ (by have := i1.1; omega) (by omega) i2.2.1 g2 i2.2.2 hu fun w3 h3 => ?_
            exact hJ20 _ w3 ⟨_, h3, by rw [ht, cb_assoc]⟩
          · intro J147 hJ147
            rcases hoe : ckE ns n (ndAt ns x).a st with ⟨e4, q4⟩ | ⟨t, st4⟩
            · rw [hoe] at h2 etg
              refine h2.flag (fun e q h hne => ?_) (fun _ _ h => by cases h)
              rw [if_neg (by simpa using hne)]
              exact hJ147 w2 ⟨.error (e4, q4), h2, etg⟩
            · rw [hoe] at h2 etg hr
              have hr : r = t := hr
              subst hr
              simp only [cb_ok] at etg
              refine h2.flag (fun e q h hne => by cases h) (fun _ _ _ => ?_)
              rw [if_pos (by rfl)]
              by_cases ht2 : 2 ≤ r
              · rw [if_pos (by simpa using ht2)]
                rw [if_pos ht2] at etg
                refine drew_ ?_
                have h2 := h2.drew
                generalize w2.drew = w2 at *
                obtain ⟨bty, bre, sfs, svs, g1', g2', g3', _⟩ := h2.1.ex
                have hne : ns.length ≠ 0 := by omega
                have htb : Blk w2 tb (ns.flatMap ndV) := (g1'.lc (tb, ns.flatMap ndV) (by simp [tloc, hne])).1
                refine ldS g3' rfl (ldI h2.loc rfl ?_)
                have ia := i1.1
                have ib := i1.2.1
                simp only [tsl, if_neg hne]
                refine ix rfl (by show 0 ≤ (ndAt ns x).a; omega) (by show (ndAt ns x).a < _; omega) ?_
                refine ldI htb (m := (ndAt ns (ndAt ns x).a).pos) ?_ ?_
                · obtain ⟨m', hm'⟩ : ∃ q : Nat, (ndAt ns x).a = q := ⟨(ndAt ns x).a.toNat, by omega⟩
                  show (ns.flatMap ndV)[0 + (ndAt ns x).a.toNat * 8 + 6]? = _
                  rw [Nat.zero_add, hm', Int.toNat_natCast, ndCell (by omega) (by omega)]; rfl
                refine CM.fail (β := Int) h2 (by decide) fun w6 h6 => ?_
                exact bad w6 _ h6 ⟨_, rfl⟩ etg
              · rw [if_neg (by simpa using ht2)]
                rw [if_neg ht2] at etg
                exact hJ147 w2 ⟨.ok ((), st4), h2, etg⟩
        rw [if_neg (fun e => hq (hj.1 e))]
        rw [if_neg hq] at etg
        refine join_P (fun (j : Bool) u => u = v ∧ (j = true ↔ 28 ≤ (ndAt ns x).val ∧ (ndAt ns x).val ≤ 31)) ?_ ?_
        · rintro j u ⟨rfl, hj⟩
          by_cases hc : 28 ≤ (ndAt ns x).val ∧ (ndAt ns x).val ≤ 31
          · rw [if_pos (hj.2 hc)]
            rw [if_pos hc] at etg
            exact two 0 0 1 etg
          · rw [if_neg (fun e => hc (hj.1 e))]
            rw [if_neg hc] at etg
            exact two 0 0 0 etg
        · intro J hJ
          refine if_k (fun e => hJ _ _ ⟨rfl, by simp [e]⟩) fun n1 => ?_
          refine if_k (fun e => hJ _ _ ⟨rfl, by simp [e]⟩) fun n2 => ?_
          refine if_k (fun e => hJ _ _ ⟨rfl, by simp [e]⟩) fun n3 => hJ _ _ ⟨rfl, by simp only [beq_iff_eq]; omega⟩
      · intro J hJ
        refine if_k (fun e => hJ _ _ ⟨rfl, by simp [e]⟩) fun n1 => hJ _ _ ⟨rfl, by simp [n1]⟩
    · intro J hJ
      refine if_k (fun e => hJ _ _ ⟨rfl, by simp [e]⟩) fun n1 => hJ _ _ ⟨rfl, by simp [n1]⟩
  · rw [if_neg k18] at etg
    exact hJ20 0 w1 ⟨_, hcm, etg⟩
/-- The expressions' functions, all: below b. -/
theorem mexpr_all (ns : List Nd) (w0 : World) (s tb : Nat) : (∀ (n : Nat) (x lo : Int) nv hds L (o : CR Unit) w K, 0 ≤ lo → lo ≤ x → x < ns.length → x < n → GI ns lo x → kE (ndAt ns x).kind → CM ns w0 s tb nv hds o L w → (∀ r w', CM ns w0 s tb nv hds (cb o fun _ st => ckE ns n x st) L w' → Rc (cb o fun _ st => ckE ns n x st) r → K r w') → S.checkm_st_expr s x w K) ∧
    (∀ (n : Nat) (x lo ty : Int) nv hds L (o : CR Unit) w K, 0 ≤ lo → lo ≤ x → x < ns.length → x < n → GI ns lo x → kE (ndAt ns x).kind → CM ns w0 s tb nv hds o L w → (∀ w', CM ns w0 s tb nv hds (cb o fun _ st => isTy ns (ckE ns n) x ty st) L w' → K w') → S.checkm_st_is s x ty w K) := by
  let PI : Nat → Nat → Int → Int → World → (World → Prop) → Prop := fun m s' x ty w K => ∃ (n : Nat) (lo : Int) (nv : List Vr × Nat) (hds : List Int) (L : List (Nat × List Value)) (o : CR Unit), s' = s ∧ m = 2 * x.toNat + 1 ∧ 0 ≤ lo ∧ lo ≤ x ∧ x < ns.length ∧ x < n ∧ GI ns lo x ∧ kE (ndAt ns x).kind ∧ CM ns w0 s tb nv hds o L w ∧ (∀ w', CM ns w0 s tb nv hds (cb o fun _ st => isTy ns (ckE ns n) x ty st) L w' → K w')
  let PE : Nat → Nat → Int → World → (Int → World → Prop) → Prop := fun m s' x w K => ∃ (n : Nat) (lo : Int) (nv : List Vr × Nat) (hds : List Int) (L : List (Nat × List Value)) (o : CR Unit), s' = s ∧ m = 2 * x.toNat ∧ 0 ≤ lo ∧ lo ≤ x ∧ x < ns.length ∧ x < n ∧ GI ns lo x ∧ kE (ndAt ns x).kind ∧ CM ns w0 s tb nv hds o L w ∧ (∀ r w', CM ns w0 s tb nv hds (cb o fun _ st => ckE ns n x st) L w' → Rc (cb o fun _ st => ckE ns n x st) r → K r w')
  have hG : T.G208 PI PE := by
    refine ⟨?_, ?_⟩
    · rintro m s' x ty w K ⟨n, lo, nv, hds, L, o, rfl, rfl, h0, h1, h2, h3, hg, hk, h, hK⟩
      refine mis_body h2 h0 h1 hg hk (fun x' lo' nv' hds' L' o' w' K' a0 a1 a2 a3 a4 a5 a6 => ?_) h hK
      exact ⟨2 * x'.toNat, by omega, n, lo', nv', hds', L', o', rfl, rfl, a0, a1, by omega, by omega, a3, a4, a5, a6⟩
    · rintro m s' x w K ⟨n, lo, nv, hds, L, o, rfl, rfl, h0, h1, h2, h3, hg, hk, h, hK⟩
      cases n with
      | zero => omega
      | succ n =>
        refine mexpr_body h2 h0 h1 hg hk (fun x' lo' nv' hds' L' o' w' K' a0 a1 a2 a3 a4 a5 a6 => ?_) (fun x' lo' ty' nv' hds' L' o' w' K' a0 a1 a2 a3 a4 a5 a6 => ?_) h hK
        · exact ⟨2 * x'.toNat, by omega, n, lo', nv', hds', L', o', rfl, rfl, a0, a1, by omega, by omega, a3, a4, a5, a6⟩
        · exact ⟨2 * x'.toNat + 1, by omega, n, lo', nv', hds', L', o', rfl, rfl, a0, a1, by omega, by omega, a3, a4, a5, a6⟩
  refine ⟨?_, ?_⟩
  · intro n x lo nv hds L o w K h0 h1 h2 h3 hg hk h hK
    exact ⟨PI, PE, hG, 2 * x.toNat, n, lo, nv, hds, L, o, rfl, rfl, h0, h1, h2, h3, hg, hk, h, hK⟩
  · intro n x lo ty nv hds L o w K h0 h1 h2 h3 hg hk h hK
    exact ⟨PI, PE, hG, 2 * x.toNat + 1, n, lo, nv, hds, L, o, rfl, rfl, h0, h1, h2, h3, hg, hk, h, hK⟩
end Go.Proofs.Qxb6500562aGreat
