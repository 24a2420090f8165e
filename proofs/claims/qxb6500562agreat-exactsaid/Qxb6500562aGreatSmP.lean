/-
  The interpreter against the machine: a call.
-/
import Derived.Test.Qxb6500562aGreatSmO
namespace Go.Proofs.Qxb6500562aGreat
open Go.Den Go.Zip
set_option linter.unusedVariables false
set_option linter.unusedSimpArgs false
variable {w w' w1 w2 : World} {r : Nat} {P : PrgH} {inp : List Int} {O O' O1 O2 : Nat → Prop} {x y rb : Int} {loc args : Sl} {s s' s1 s2 : MS} {f f1 : Fm} {rr : List Fm} {F : Fn} {bl n p j ret : Nat} {avs : List Int}

theorem rankI {fu b : Int} (h : 0 < fu) (hb : b < 200) : (fu - 1).toNat * 1000 + 3 * b.toNat + 5 < fu.toNat * 1000 + 2 := by omega
theorem IvP.fr0 {K : Int → World → Prop} (h : IvP P inp r j args w K s ret O avs) (Fx : Fr 0 0 w w') : IvP P inp r j args w' K s ret O avs :=
  { h with mt := h.mt.fr0 Fx, oa := h.oa.frp (FrP.of0 Fx) (fun _ _ h => h), gN := fun f o rr hf v w'' O' s' a b => h.gN f o rr hf v w'' O' s' a ((Gw.new Fx).trans b), g0 := fun hf v w'' O' s' H a b => h.g0 hf v w'' O' s' H a ((Gw.new Fx).trans b), en := fun v w'' O' s' a b => h.en v w'' O' s' a ((Gw.new Fx).trans b) }
theorem copyArgs {li : Nat} {K : Int → World → Prop} (oa : OS w args (ints avs) 1) (b5 : Blk w bl (ints (List.replicate li 0))) (hle : avs.length ≤ li) (hK : ∀ n w', Blk w' bl (ints (avs ++ List.replicate (li - avs.length) 0)) → FrP (fun b => b = bl) w w' → K n w') : CopyS 1 w ⟨some ⟨bl, 0, none⟩, li, li⟩ args K := by
  have hal := oa.len
  rw [show (ints avs).length = avs.length by simp [ints], Nat.mul_one] at hal
  have e5 : ∀ l : List Int, l.length ≤ li → (ints (List.replicate li 0)).take 0 ++ ints l ++ (ints (List.replicate li 0)).drop (0 + (ints l).length) = ints (l ++ List.replicate (li - l.length) 0) := fun l hl => by simp [ints]
  rcases oa with ⟨e, e'⟩ | ⟨gb, a, b, cc, junk, d, l⟩
  · have e0 : avs = [] := by simpa [ints] using e'
    subst e0
    refine copyS_nil (by rw [e]; simp [Nat.min_def]) (hK 0 w ?_ (FrP.refl _ _))
    simpa using b5
  · refine copyS (n := avs.length) (us := ints avs) d a b5 rfl (by dsimp only; rw [← hal]; exact (Nat.min_eq_left hle).symm) (by rw [Nat.mul_one, List.drop_zero]; simp [ints]) (by simp [ints]) (ints_ok _) (by simp [ints]; omega) fun w5 b5 f5 s5 => ?_
    rw [e5 _ hle] at b5
    exact hK _ w5 b5 (FrP.of f5 fun b h1 h2 => by omega)
/-- What is left of the callers. -/
theorem IvP.rest (h : (s.fs = [] ∧ avs = [] ∧ F.ret < 2 ∧ F.pr = 0) ∨ ∃ (f : Fm) (o : List Int) (rr : List Fm), s.fs = { f with ops := o ++ avs } :: rr ∧ (f.rb : Int) + f.lr + F.pr ≤ s.H.roots.length) {pi pr : Nat} (al : avs.length = pi) (hpr : F.pr = pr) : ∃ rest' : List Fm, ((s.fs = [] ∧ pi = 0 ∧ pr = 0 ∧ avs = [] ∧ rest' = []) ∨ ∃ (f : Fm) (o : List Int) (rr : List Fm), s.fs = { f with ops := o ++ avs } :: rr ∧ avs.length = pi ∧ rest' = { f with ops := o } :: rr ∧ f.rb + f.lr + pr ≤ s.H.roots.length) ∧ (rest' = [] → F.ret < 2) ∧ wsz s.fs = wsz rest' + pi ∧ pr ≤ s.H.roots.length := by
  rcases h with ⟨e1, e2, e3, e4⟩ | ⟨f, o, rr, e1, e2⟩
  · subst e2
    have : pi = 0 := by rw [← al]; rfl
    exact ⟨[], .inl ⟨e1, this, by omega, rfl, rfl⟩, fun _ => e3, by rw [e1, this]; rfl, by omega⟩
  · refine ⟨{ f with ops := o } :: rr, .inr ⟨f, o, rr, e1, al, rfl, by omega⟩, (fun h => by cases h), ?_, by omega⟩
    rw [e1, wsz_ops, wsz_ops, List.length_append]; omega
set_option maxHeartbeats 4000000 in
theorem invoke_sim {rk : Nat} {fn : Int} {Ri : Nat → Int → Sl → World → (Int → World → Prop) → Prop} {Re : Nat → Int → Sl → Int → World → (Int → World → Prop) → Prop} {Rb : Nat → Int → Int → Int → Int → Int → Int → Int → ByteArray → Sl → Int → World → (Int → World → Prop) → Prop} {K : Int → World → Prop} (h200 : P.ns.length ≤ 200) (pt : PT P.ns P.st P.main) (hq : QIv P inp rk r fn args w K) :
    B.genm_run_invoke Ri (fun x0 x1 x2 x3 w K => ∃ m, m < rk ∧ QEx P inp m x0 x1 x2 x3 w K) Re Rb r fn args w K := by
  unfold B.genm_run_invoke
  obtain ⟨j, s, ret, O, avs, rfl, hrk, h⟩ := hq
  refine h.mt.2.rb.fn7 h.jl fun w1 p b1 hpl F1 => ?_
  have hpo : ¬ O p := fun hh => by have := h.mt.2.rb.lt hh; omega
  replace h := h.fr0 F1
  have hj := h.jl
  have tf := pt.tf j hj
  have hm : fnAt P.st.fs (j : Int) ∈ P.st.fs := fnAt_mem (by omega) (by omega)
  have ub := pt.ub _ hm
  have fo := pt.fo _ hm
  have nd := pt.nd _ hm
  have code := fn_code pt.mn.1 hj
  have al := h.al; have ca := h.ca; have gN := h.gN; have g0 := h.g0; have en := h.en; have mt := h.mt; have oa := h.oa; have na := h.na
  clear h
  generalize hF : fnAt P.st.fs (j : Int) = F at *
  generalize hA : pEnt P (j : Int) = a at *
  obtain ⟨hu0, hu1, hu2, hu3⟩ := ub
  obtain ⟨nd0, nd1, nd2⟩ := nd
  obtain ⟨pi, hpi⟩ : ∃ k : Nat, F.pi = k := ⟨_, fo.1.symm⟩
  obtain ⟨pr, hpr⟩ : ∃ k : Nat, F.pr = k := ⟨_, fo.2.symm⟩
  obtain ⟨li, hli⟩ : ∃ k : Nat, F.li = k := ⟨F.li.toNat, by omega⟩
  obtain ⟨lr, hlr⟩ : ∃ k : Nat, F.lr = k := ⟨F.lr.toNat, by omega⟩
  have tpi := tf.pi
  have tpr := tf.pr
  obtain ⟨rest', hca, hne, hwz, hprs⟩ := IvP.rest (F := F) (pi := pi) (pr := pr) ca (by omega) hpr
  have hat : At (pCode P.toPrg) a [25, pi, pr, li, lr] := by
    have h1 := (code.left.left : SA _ _ _ (headS F)).by_
    rw [lt256 (by omega) (by omega), lt256 (by omega) (by omega), lt256 (by omega) (by omega), lt256 (by omega) (by omega), hpi, hpr, hli, hlr] at h1
    exact h1
  have hme := enter_eq (s := s) (ret := ret) hat (by omega) (by omega) hca
  have mle := mt.2.le
  unfold mspend at hme
  have b1' := b1
  refine mspend_spec mt.2 (fun hf w2 e2 G2 => ?_) fun hf w2 m2 G2 => ?_
  · refine e2.end_ fun _ => ?_
    rw [if_pos (by decide)]
    rw [if_pos hf] at hme
    refine en 0 w2 O (trap 22 s) ⟨by show (22 : Int) ≠ 0; decide, e2⟩ G2 ?_
    rw [hme]
    exact Rn.refl _
  rw [if_neg (by omega)] at hme
  dsimp only at hme
  refine m2.end_ ?_
  rw [if_neg (by decide)]
  obtain ⟨b2, hpo2⟩ := keepB b1 hpo G2
  have spE : sp { s with fuel := s.fuel - 1 } = wsz s.fs := rfl
  rw [spE] at hme
  refine join_W (fun u => (48 < wsz s.fs - pi + li + 3 ∨ 24 < s.H.roots.length - pr + lr) ∧ RGo u r P inp (wsz s.fs) s.ip (s.fuel - 1) s.out s.H O ∧ Gw O w1 O u) ?_ fun J hJ => ?_
  · rintro u ⟨hc, mu, Gu⟩
    rw [if_pos hc] at hme
    refine mu.stop (by decide) fun w' e' G' => en 0 w' O (trap 29 { s with fuel := s.fuel - 1 }) ⟨by show (29 : Int) ≠ 0; decide, ⟨_, e'⟩⟩ (Gu.trans G') ?_
    rw [hme]
    exact Rn.refl _
  have G2d : Gw O w1 O w2.drew := G2.trans (Gw.new (Fr.refl 0 0 w2).drew)
  refine drew_ (m2.drew.ldU fun hu => ?_)
  have b2d : Blk w2.drew p (fnV F) := b2.drew
  refine ldI b2d (m := F.pi) rfl (ldI b2d (m := F.li) rfl ?_)
  rw [hpi, hli, W_id (x := ((wsz s.fs : Nat) : Int) - (pi : Nat)) (by omega) (by omega), W_id (x := ((wsz s.fs : Nat) : Int) - (pi : Nat) + 3) (by omega) (by omega), W_id (by omega) (by omega)]
  by_cases c1 : 48 < wsz s.fs - pi + li + 3
  · rw [if_pos (by simp only [decide_eq_true_eq]; omega)]
    exact hJ _ ⟨.inl c1, m2.drew, G2d⟩
  rw [if_neg (by simp only [decide_eq_true_eq]; omega)]
  obtain ⟨hp, Oh, hs, ld, tr⟩ := m2.drew.open_
  refine ld _ ?_
  unfold Hold
  refine ldI b2d (m := F.lr) rfl (ldI b2d (m := F.pr) rfl (hs.depth ⟨hold_same b2d b2d, hold_same b2d b2d, ?_⟩))
  rw [hlr, hpr, W_id (x := (s.H.roots.length : Int) + (lr : Nat)) (by omega) (by omega), W_id (by omega) (by omega)]
  by_cases c2 : 24 < s.H.roots.length - pr + lr
  · rw [if_pos (by simp only [decide_eq_true_eq]; omega)]
    exact hJ _ ⟨.inr c2, m2.drew, G2d⟩
  rw [if_neg (by simp only [decide_eq_true_eq]; omega)]
  rw [if_neg (by omega)] at hme
  refine drew_ (m2.drew.drew.ldU fun _ => ?_)
  have b2e : Blk w2.drew.drew p (fnV F) := b2d.drew
  refine ldI b2e (m := F.li) rfl (ldI b2e (m := F.pi) rfl ?_)
  rw [hli, hpi, W_id (x := 3 + ((li : Nat) : Int)) (by omega) (by omega), W_id (x := 3 + ((li : Nat) : Int) - (pi : Nat)) (by omega) (by omega), W_id (by omega) (by omega), show ((wsz s.fs : Nat) : Int) + (3 + ((li : Nat) : Int) - (pi : Nat)) = ((wsz rest' + li + 3 : Nat) : Int) by omega]
  refine m2.drew.drew.setU (by omega) fun w4 m4 G4 => ?_
  have G24 : Gw O w1 O w4 := G2d.trans (show Gw O w2.drew O w4 from G4)
  obtain ⟨b4, hpo4⟩ := keepB b1 hpo G24
  refine ldI b4 (m := F.li) rfl ?_
  rw [hli]
  refine mkS (by omega) (by omega) (by omega) (by omega) fun w5 b5 f5 s5 => ?_
  rw [Int.toNat_natCast, reps_ints] at b5
  rw [Int.toNat_natCast]
  have m5 := m4.fr0 f5
  have G5 : Gw O w1 O w5 := G24.trans (Gw.new f5)
  obtain ⟨oa5, na5⟩ := OS.mvG oa na G5
  have ltO : ∀ b, O b → b < w4.heap.size := fun b hb => m4.rb.lt hb
  generalize hbl : w4.heap.size = bl at *
  have rl : r < bl := ltO r m4.rb.own
  have w1bl : w1.heap.size ≤ bl := by have := G24.1.1.1; omega
  have pbl : p ≠ bl := by have := b4.lt; omega
  have nOb : ¬ O bl := fun h => by have := ltO _ h; omega
  refine copyArgs oa5 b5 (by omega) fun nn w6 b6 f6 => ?_
  have m6 := m5.frpN f6 (fun b hb e => nOb (e ▸ hb)) fun b e => by omega
  have avl : avs.length = pi := by omega
  rw [avl] at b6
  have G6 : Gw O w1 O w6 := ⟨G5.1.trans' f6 fun b e => .inr (by omega), fun b hb => .inl hb⟩
  have G6d : Gw O w1 O w6.drew := G6.trans (Gw.new (Fr.refl 0 0 w6).drew)
  refine drew_ ?_
  have m7 := m6.drew
  have b6d : Blk w6.drew bl (ints (avs ++ List.replicate (li - pi) 0)) := b6.drew
  obtain ⟨b7, hpo7⟩ := keepB b1 hpo G6d
  clear hp Oh hs ld tr
  obtain ⟨hp, Oh, hs, ld, tr⟩ := m7.open_
  refine ld _ ?_
  refine ldI b7 (m := F.pr) rfl (hs.depth ⟨hold_same b7 b7, ldI b7 (m := F.pr) rfl ?_⟩)
  rw [hpr, W_id (by omega) (by omega), show (s.H.roots.length : Int) - ((pr : Nat) : Int) = ((s.H.roots.length - pr : Nat) : Int) by omega]
  clear hs ld tr
  generalize hs1 : ({ s with fuel := s.fuel - 1, fs := ⟨ret, avs ++ List.replicate (li - pi) 0, [], lr, s.H.roots.length - pr⟩ :: rest', H := nils (lr - pr) s.H, pc := a + 5 } : MS) = s1 at *
  have hme1 : menter (pCode P.toPrg) a ret s = s1 := by rw [hme, ← hs1]
  have nl : (nils (lr - pr) s.H).roots.length = s.H.roots.length + (lr - pr) := nils_len _ _ (by omega)
  have s1fs : s1.fs = ⟨ret, avs ++ List.replicate (li - pi) 0, [], lr, s.H.roots.length - pr⟩ :: rest' := by rw [← hs1]
  have s1pc : s1.pc = a + 5 := by rw [← hs1]
  have s1fu : s1.fuel = s.fuel - 1 := by rw [← hs1]
  have s1rt : s1.H.roots.length = s.H.roots.length - pr + lr := by rw [← hs1]; show (nils _ _).roots.length = _; omega
  have u1 : wsz s1.fs = wsz rest' + li + 3 := by rw [s1fs]; show wsz rest' + (avs ++ List.replicate (li - pi) 0).length + 3 + 0 = _; rw [List.length_append, List.length_replicate]; omega
  refine join_W (fun u => ∃ O', MtG u r P inp s1 O' ∧ Gw O w6.drew O' u) ?_ fun J' hJ' => ?_
  · rintro u ⟨O1, m1, G1⟩
    have md : MtG u.drew r P inp s1 O1 := ⟨m1.1, m1.2.drew⟩
    have Gd : Gw O w6.drew O1 u.drew := G1.trans (Gw.new (Fr.refl 0 0 u).drew)
    obtain ⟨bu, hpou⟩ := keepB b7 hpo7 Gd
    obtain ⟨lu, nlu⟩ := keepB b6d nOb Gd
    have GA : Gw O w1 O1 u.drew := G6d.trans Gd
    have hb := (pt.good F.node nd0 nd1).1.f0 nd2 |>.2.1
    have hb0 := hb.1; have hb1 := hb.2.1; have hb2 := hb.2.2
    refine drew_ ?_
    have cell2 : (P.ns.flatMap ndV)[0 + Int.toNat F.node * 8 + 2]? = some (.int .i64 (ndAt P.ns F.node).b) := by
      obtain ⟨i, hi⟩ : ∃ i : Nat, F.node = i := ⟨F.node.toNat, by omega⟩
      rw [hi, Nat.zero_add, Int.toNat_natCast]
      exact (nd_cells P.ns (by omega) (by omega : 2 < 8)).trans rfl
    obtain ⟨g, hp', H', out', si, so, Oh', c1', c2', c3', c4', mx, eO⟩ := md.2.rb
    refine ldS mx.rc (by rw [tab_get (by omega), mx.tt]) (ldI bu (m := F.node) rfl (ix rfl nd0 nd1 (ldI mx.n1 (m := (ndAt P.ns F.node).b) cell2 ?_)))
    clear mx eO
    have hz : ∀ q, cZ P P.ns.length (ndAt P.ns F.node).b q = cB P.toPrg P.ns.length (ndAt P.ns F.node).b q := fun q => cZ_B hb2
    have saB : SA (pCode P.toPrg) (pEnt P) (a + 5) (cB P.toPrg P.ns.length (ndAt P.ns F.node).b (a + 5)) := code.left.right rfl
    have saT : SA (pCode P.toPrg) (pEnt P) (a + 5 + (cB P.toPrg P.ns.length (ndAt P.ns F.node).b (a + 5)).length) (tailS F.ret) := code.right (by
      rw [List.length_append]
      show _ = a + (5 + (cB P.toPrg P.ns.length (ndAt P.ns F.node).b (a + 5)).length)
      omega)
    have tlen : 0 < (tailS F.ret).length := by unfold tailS; rw [List.length_append, byS_len]; simp
    have tle := saT.le
    have f0lr : (⟨ret, avs ++ List.replicate (li - pi) 0, [], lr, s.H.roots.length - pr⟩ : Fm).lr = lr := rfl
    -- leaving
    have leave : ∀ (v : Int) (w' : World) (O' : Nat → Prop) (s' : MS) (f' : Fm), MtG w' r P inp s' O' → Gw (OL O1 bl) u.drew (OL O' bl) w' → RnP P inp s1 s' → At (pCode P.toPrg) s'.pc [cls F.ret 26 27] → s'.fs = f' :: rest' → f' = { (⟨ret, avs ++ List.replicate (li - pi) 0, [], lr, s.H.roots.length - pr⟩ : Fm) with loc := f'.loc, ops := if 2 ≤ F.ret then [] else [v] } → f'.loc.length = li → s'.H.roots.length = s1.H.roots.length + (if 2 ≤ F.ret then 1 else 0) → s'.fuel ≤ s1.fuel → LvT r p ((s.H.roots.length - pr : Nat) : Int) v K w' := by
      intro v w' O' s' f' m' G' r' at' fs' e' ll' rt' fu'
      obtain ⟨bp, np⟩ := keepL bu hpou pbl G'
      have e1 : f'.ret = ret := by rw [e']
      have e2 : f'.rb = s.H.roots.length - pr := by rw [e']
      have e3 : f'.lr = lr := by rw [e']
      have e4 : f'.ops = if 2 ≤ F.ret then [] else [v] := by rw [e']
      have GB : Gw O w1 O' w' := Gw.dropL GA w1bl G'
      refine inv_leave (F := F) m' bp np fs' at' e4 (by rw [ll', hli]) (by omega) (by rw [rt', s1rt, e2, e3]) (by rw [e2]) hne ?_ ?_
      · intro f0 r0 hr0 w3 O3 s3 m3 G3 r3 pc3 fs3 rt3 fu3
        rcases hca with ⟨_, _, _, _, q⟩ | ⟨f9, o9, rr9, q1, q2, q3, q4⟩
        · rw [q] at hr0; cases hr0
        · rw [q3] at hr0
          cases hr0
          refine gN f9 o9 r0 q1 _ w3 O3 s3 m3 (GB.trans G3) ?_ (by rw [pc3, e1]) ?_ ?_ (by omega)
          · rw [hme1]; exact r'.trans r3
          · rw [fs3]
            by_cases hT : 2 ≤ F.ret
            · simp only [if_pos hT]
            · simp only [if_neg hT]
          · rw [hpr]
            by_cases hT : 2 ≤ F.ret
            · rw [if_pos hT] at rt3 ⊢; omega
            · rw [if_neg hT] at rt3 ⊢; omega
      · intro hr0 w3 O3 s3 H3 m3 G3 r3 en3 rv3
        rcases hca with ⟨q, _⟩ | ⟨f9, o9, rr9, q1, q2, q3, q4⟩
        · exact g0 q v w3 O3 s3 H3 m3 (GB.trans G3) (by rw [hme1]; exact r'.trans r3) en3 rv3
        · rw [q3] at hr0; cases hr0
    have stop : ∀ (v : Int) (w' : World) (O' : Nat → Prop) (s' : MS), MtE w' r P inp s' O' → Gw (OL O1 bl) u.drew (OL O' bl) w' → RnP P inp s1 s' → LvT r p ((s.H.roots.length - pr : Nat) : Int) v K w' := by
      intro v w' O' s' m' G' r'
      refine m'.end_ ?_
      rw [if_pos (by simpa using m'.1)]
      exact en 0 w' O' s' m' (Gw.dropL GA w1bl G') (by rw [hme1]; exact r')
    have hrank : s1.fuel.toNat * 1000 + 3 * (ndAt P.ns F.node).b.toNat + 5 < rk := by
      rw [s1fu, hrk]
      exact rankI hf (by omega)
    refine recEx (s1 := s1) (f1 := ⟨ret, avs ++ List.replicate (li - pi) 0, [], lr, s.H.roots.length - pr⟩) (O1 := O1) (F := F) (rr := rest') (bl := bl) (n' := P.ns.length) hrank ⟨hb0, by omega, by rw [hb2]; omega, by unfold TZ; rw [if_pos hb2]; exact tf.bd, md, ⟨hm, s1fs, ?_, hlr.symm, rfl, ?_, lu, nlu, ?_, ?_⟩, rl, rfl, ?_, ?_, ?_, ?_, ?_, ?_⟩
    · rw [hli]; show ((avs ++ List.replicate (li - pi) 0).length : Int) = _; rw [List.length_append, List.length_replicate]; omega
    · show _ = (⟨some ⟨bl, 0, none⟩, (avs ++ List.replicate (li - pi) 0).length, (avs ++ List.replicate (li - pi) 0).length⟩ : Sl)
      rw [List.length_append, List.length_replicate, avl, show pi + (li - pi) = li by omega]
    · rw [s1rt]; exact Nat.le_refl _
    · refine ⟨?_, ?_, ?_⟩
      · show (avs ++ List.replicate (li - pi) 0).length ≤ 12; rw [List.length_append, List.length_replicate]; omega
      · show lr ≤ 12; omega
      · show s.H.roots.length - pr ≤ 24; omega
    · rw [s1rt]
    · rw [s1pc, hz]; exact saB
    · rw [s1pc, hz]; omega
    · intro w' O' s' f' m' G' r' pc' fc' e' rt' fu'
      rw [join_eq]
      refine m'.end_ ?_
      rw [if_pos (by decide), if_pos (by decide)]
      obtain ⟨bp, np⟩ := keepL bu hpou pbl G'
      refine ldI bp (m := F.ret) rfl ?_
      have saT' : SA (pCode P.toPrg) (pEnt P) s'.pc (tailS F.ret) := by rw [pc', hz, s1pc]; exact saT
      have lrb := fc'.rt
      have fll : f'.loc.length = li := by have := fc'.ll; omega
      have fop : f'.ops = [] := by rw [e']
      by_cases hT : 2 ≤ F.ret
      · rw [if_pos (by simpa using hT)]
        unfold tailS at saT'
        rw [if_pos hT] at saT'
        have at7 : At (pCode P.toPrg) s'.pc [7] := saT'.left.by_
        have atR : At (pCode P.toPrg) (s'.pc + 1) [cls F.ret 26 27] := (saT'.right rfl).by_
        have rn := ins (inp := inp) m'.1 fc'.fs at7 rfl (by omega) (by show 0 ≤ _; omega) (by show ((0 : Nat) : Int) + _ + _ ≤ _; omega)
        rw [mop_7] at rn
        obtain ⟨hp', Oh', hs', ld', tr'⟩ := m'.2.open_
        refine ld' _ (hs'.push fun w3 Oh3 h3 G3 => ?_)
        obtain ⟨O3, m3, G3'⟩ := tr' _ _ _ h3 G3
        refine mheapEnd_spec m3 (fun he w4' e4 G4' => ?_) fun he => ?_
        · have hd : did (hPush s'.H).1 { s' with pc := s'.pc + 1 + nargs 7, H := (hPush s'.H).2 } = trap (endOf (hPush s'.H).1) { s' with pc := s'.pc + 1 + nargs 7, H := (hPush s'.H).2 } := if_pos he
          exact stop 0 w4' O3 (trap (endOf (hPush s'.H).1) { s' with pc := s'.pc + 1 + nargs 7, H := (hPush s'.H).2 }) ⟨endOf_ne' _, e4⟩ (G'.trans (Gw.ol (G3'.trans G4') bl)) (r'.trans (hd ▸ rn))
        · have hd : did (hPush s'.H).1 { s' with pc := s'.pc + 1 + nargs 7, H := (hPush s'.H).2 } = { s' with pc := s'.pc + 1 + nargs 7, H := (hPush s'.H).2 } := if_neg (fun hn => hn he)
          refine leave 0 w3 O3 { s' with pc := s'.pc + 1 + nargs 7, H := (hPush s'.H).2 } f' ⟨m'.1, m3⟩ (G'.trans (Gw.ol G3' bl)) (r'.trans (hd ▸ rn)) atR fc'.fs ?_ fll ?_ fu'
          · rw [if_pos hT]; exact e'
          · show (hPush s'.H).2.roots.length = _
            rw [if_pos hT, push_len (push_err he), rt']
      · rw [if_neg (by simpa using hT)]
        unfold tailS at saT'
        rw [if_neg hT] at saT'
        have atR : At (pCode P.toPrg) (s'.pc + 9) [cls F.ret 26 27] := (saT'.right (by rw [numS_len])).by_
        have rn := ins_num (inp := inp) (by omega) m'.1 fc'.fs saT'.left (by omega)
        refine ev_push (v := 0) (q := s'.pc + 9) m' fc'.fs (fun w3 e3 G3 => ?_) fun w3 e3 eq G3 => ?_
        · exact stop 0 w3 O' _ e3 (G'.trans (Gw.ol G3 bl)) (r'.trans rn)
        · rw [eq] at e3 rn
          refine leave 0 w3 O' _ { f' with ops := f'.ops ++ [0] } e3 (G'.trans (Gw.ol G3 bl)) (r'.trans rn) atR rfl ?_ fll ?_ fu'
          · rw [if_neg hT, fop, List.nil_append, e']
          · rw [if_neg hT]; exact rt'
    · intro v w' O' s' f' m' G' r' at' fc' e' rt' fu'
      rw [join_eq]
      refine m'.end_ ?_
      rw [if_pos (by decide), if_neg (by decide)]
      exact leave v w' O' s' f' m' G' r' at' fc'.fs e' (by have := fc'.ll; omega) rt' fu'
    · intro v w' O' s' m' G' r'
      rw [join_eq]
      refine m'.end_ ?_
      rw [if_neg (by simpa using m'.1)]
      exact stop v w' O' s' m' G' r'
  · refine loopN (fun k v u => ∃ (i : Nat) (H : SH) (O' : Nat → Prop), v = ((i : Int), ()) ∧ k = lr - i ∧ pr ≤ i ∧ i ≤ lr ∧ RGo u r P inp (wsz rest' + li + 3) s.ip (s.fuel - 1) s.out H O' ∧ Gw O w6.drew O' u ∧ nils (lr - i) H = nils (lr - pr) s.H) (lr - pr) ⟨pr, s.H, O, rfl, rfl, Nat.le_refl _, by omega, m7, Gw.refl _ _, rfl⟩ ?_
    rintro k _ u ⟨i, H, O', rfl, rfl, hi1, hi2, mu, Gu, hn⟩ Q hQ
    dsimp only
    obtain ⟨bu, hpou⟩ := keepB b7 hpo7 Gu
    refine ldI bu (m := F.lr) rfl ?_
    rw [hlr]
    by_cases hi : i < lr
    · rw [if_pos (by simp only [decide_eq_true_eq]; omega)]
      obtain ⟨hp', Oh', hs', ld', tr'⟩ := mu.open_
      refine ld' _ (hs'.push fun w3 Oh3 h3 G3 => ?_)
      obtain ⟨O3, m3, G3'⟩ := tr' _ _ _ h3 G3
      refine let_ ?_
      rw [W_succ (by omega)]
      refine hQ (lr - (i + 1)) _ w3 (by omega) ⟨i + 1, _, O3, rfl, rfl, by omega, by omega, m3, Gu.trans G3', ?_⟩
      rw [← hn, show lr - i = (lr - (i + 1)) + 1 by omega]; rfl
    · rw [if_neg (by simp only [decide_eq_true_eq]; omega)]
      have : i = lr := by omega
      subst this
      rw [Nat.sub_self] at hn
      refine hJ' u ⟨O', ⟨by rw [← hs1]; exact mt.1, ?_⟩, Gu⟩
      rw [u1, ← hs1]
      show RGo u r P inp _ s.ip (s.fuel - 1) s.out (nils (i - pr) s.H) O'
      rw [← hn]
      exact mu
end Go.Proofs.Qxb6500562aGreat
