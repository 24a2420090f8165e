/-
  The real checker: bodies, main.
-/
import Derived.Test.Qxb6500562aGreatCrG
namespace Go.Proofs.Qxb6500562aGreat
open Go.Den Go.Zip
set_option linter.unusedVariables false
set_option linter.unusedSimpArgs false
variable {α β : Type} {ns : List Nd} {w0 w w' : World} {P : Nat → Prop} {c ps tb p : Nat} {st : CS} {L : List (Nat × List Value)} {vs : List Value}

theorem CQ.setCur {m : Nat} {K : World → Prop} (h : CQ ns w0 P c ps tb st L w) (hK : ∀ w', CQ ns w0 P c ps tb { st with cur := m } L w' → K w') : St1 w ⟨c, 414, none⟩ (.int .i64 (m : Int)) K := by
  obtain ⟨f, bty, bre, g1, ⟨n1, n2, n3⟩, g3, g4, g5, g6⟩ := h.ex
  have hfl := h.inv.fl
  have hvl := vs_le h.inv
  refine stF g3 (by omega) fun u b F _ => hK u ?_
  refine ⟨h.good, h.le, ⟨h.inv.tl, h.inv.rl, h.inv.ti.of rfl rfl, h.inv.fl, h.inv.fnd, h.inv.fpp, h.inv.fpl, h.inv.fdn, h.inv.ci, h.inv.cr, h.inv.lv⟩, _, bty, bre, g1.step0 (FrP.of F fun b h1 h2 => .inl (by omega)), ⟨n1, n2, n3⟩, b, ?_, g5.fr F (by omega), g6.fr F (by omega)⟩
  have e : ∀ i, i ≠ 414 → fset f 414 (.int .i64 (m : Int)) i = f i := fun i hi => fset_ne hi
  refine ⟨by rw [e _ (by omega)]; exact g4.ps, g4.vt.off (by omega), fun k hk => ?_, by rw [e _ (by omega)]; exact g4.ni, by rw [e _ (by omega)]; exact g4.nr, by rw [e _ (by omega)]; exact g4.lv, g4.ft.off (by omega), fun i k hi hk => ?_, fun i k t hi hk => ?_,
    by rw [fset_eq], by rw [e _ (by omega)]; exact g4.t, by rw [e _ (by omega)]; exact g4.ty, by rw [e _ (by omega)]; exact g4.rf, g4.lvs⟩
  · have hk : k < st.vs.length := hk
    rw [e _ (by omega), e _ (by omega), e _ (by omega)]; exact g4.vp k hk
  · have hi : i < st.fs.length := hi
    rw [e _ (by omega)]; exact g4.fp i k hi hk
  · have hi : i < st.fs.length := hi
    rw [e _ (by omega)]; exact g4.pt i k t hi hk
theorem CQ.nfs {K : Int → Prop} (h : CQ ns w0 P c ps tb st L w) (hK : K st.fs.length) : LdI .i64 w ⟨c, 325, none⟩ K := by
  obtain ⟨f, bty, bre, g1, g2, g3, g4, g5, g6⟩ := h.ex
  refine ldF g3 (by omega) g4.ft.n ?_
  rw [show (fnames st).length = _ from List.length_map ..]
  exact hK
/-- No names in sight. -/
def clr (st : CS) : CS := { st with vs := [], lev := 0 }
theorem rbodies_spec {K : Bool → World → Prop} (h : CQ ns w0 P c ps tb (clr st) L w) (hci : CInv ns st)
    (hK1 : ∀ w' st', ckBodies ns st.fs.length 0 st = .ok ((), st') → CInv ns st' → CQ ns w0 P c ps tb (clr st') L w' → K true w')
    (hK2 : ∀ w' e q, ckBodies ns st.fs.length 0 st = .error (e, q) → CFl ns w0 P c ps tb e q L w' → K false w') : S.check_Checker_allBodies c w K := by
  unfold S.check_Checker_allBodies
  have good := h.good
  have hle := h.le
  generalize hol : ckBodies ns st.fs.length 0 st = ol at *
  refine loopN (fun m v u => ∃ (i : Nat) (s1 : CS), v = ((i : Int), ()) ∧ i + m = s1.fs.length ∧ CQ ns w0 P c ps tb (clr s1) L u ∧ CInv ns s1 ∧ ol = ckBodies ns m i s1) st.fs.length ⟨0, st, rfl, by omega, h, hci, hol.symm⟩ ?_
  rintro m _ u ⟨i, s1, rfl, him, hu, hci1, hoe⟩ Q hQ
  dsimp only
  have hfl : s1.fs.length ≤ 8 := hu.inv.fl
  refine hu.nfs ?_
  show if (decide ((i : Int) < (s1.fs.length : Int))) = true then _ else _
  cases m with
  | zero =>
    rw [if_neg (by simp only [decide_eq_true_eq]; omega)]
    exact hK1 u s1 hoe hci1 hu
  | succ m =>
    rw [if_pos (by simp only [decide_eq_true_eq]; omega)]
    have hoe2 : ol = cb (ckBody ns i s1) fun _ st => ckBodies ns m (i + 1) st := hoe
    refine hu.setCur fun w1 h1 => ?_
    have h1 : CQ ns w0 P c ps tb { s1 with cur := i, vs := [], lev := 0 } L w1 := h1
    have hfn := mem_at (l := s1.fs) (i := (i : Int)) (by omega) (by omega)
    obtain ⟨fn1, fn2, fn3⟩ := h1.inv.fnd _ hfn
    refine h1.fn (k := 0) (by omega) (by show (i : Int) < s1.fs.length; omega) (by omega) rfl ?_
    show LdS w1 ⟨c, 415, none⟩ _
    generalize hnd : (fnAt s1.fs (i : Int)).node = x at *
    obtain ⟨po1, po2⟩ := good x fn1 fn2
    obtain ⟨⟨pl, pc1, pc2⟩, pb, _⟩ := po1.f0 fn3
    obtain ⟨pl', pc1', pc3, pc4⟩ := po2.sl (.inl fn3)
    have := pc1.uniq pc1'
    subst this
    have hpk : kids ns (ndAt ns x).a = pl := kids_of pc1 pc3 fun y hy => by have := pc2 y hy; have := this.1; have := (pc2 y hy).2.1; omega
    have etg : ckBody ns i s1 = cb (ckL (ckPar ns) pl { s1 with cur := i, vs := [], lev := 0 }) fun _ s => ckB ns (ckS ns ns.length) (ndAt ns x).b s := by unfold ckBody; rw [hnd, hpk]
    refine h1.nd (k := 1) fn1 fn2 (by omega) rfl ?_
    generalize hop : ckL (ckPar ns) pl { s1 with cur := i, vs := [], lev := 0 } = op at *
    have stop : ∀ w1 e q, ckBody ns i s1 = .error (e, q) → CFl ns w0 P c ps tb e q L w1 → K false w1 := fun w1 e q he hf => hK2 w1 e q (by rw [hoe2, he]; rfl) hf
    refine join_W (fun u => ∃ st', op = .ok ((), st') ∧ CQ ns w0 P c ps tb st' L u ∧ st'.cur < st'.fs.length ∧ st'.lev = 0 ∧ st'.fs.length = s1.fs.length) ?_ ?_
    · rintro u ⟨st', rfl, hu, hc, hl0, hfs⟩
      rw [cb_ok] at etg
      refine hu.nd (k := 2) fn1 fn2 (by omega) rfl ?_
      have hgb : ∃ lo, 0 ≤ lo ∧ lo ≤ (ndAt ns x).b ∧ GI ns lo (ndAt ns x).b := by
        rcases pl.eq_nil_or_concat with hp | ⟨l0, y, hp⟩
        · refine ⟨0, by omega, pb.1, fun z z1 z2 => (good z (by omega) (by have := pb.2.1; omega)).1⟩
        · have hym : y ∈ pl := by rw [hp]; simp
          obtain ⟨q1, q2⟩ := pc4 fn3 y hym
          have hy0 := (pc2 y hym).1
          exact ⟨y + 1, by omega, by omega, q2 (by rw [hp, List.concat_eq_append, List.getLast?_concat])⟩
      obtain ⟨lo, lo0, lo1, hgi⟩ := hgb
      refine rblock_all ns w0 P c ps tb _ lo st' L u _ lo0 lo1 (by have := pb.2.1; omega) hgi pb.2.2 (by rw [hl0]; have := pb.2.1; omega) hc hu fun r w5 h5 r5 => ?_
      cases hv : ckB ns (ckS ns ns.length) (ndAt ns x).b st' with
      | error q =>
        rw [hv] at h5 etg
        rw [r5.ff hv, if_pos (by rfl)]
        exact stop w5 q.1 q.2 etg h5
      | ok tt =>
        obtain ⟨⟨⟩, s5⟩ := tt
        have kp := ckB_kp (ckS_kp ns.length) hv
        rw [hv] at h5 etg
        rw [r5.tt hv, if_neg (by decide)]
        have h5 : CQ ns w0 P c ps tb s5 L w5 := h5
        refine rundo_spec (pv := []) (r := s5.vs) h5 rfl fun w6 h6 => ?_
        refine let_ ?_
        rw [W_succ (by omega)]
        have e6 : ({ s5 with vs := [] } : CS) = clr s5 := by
          unfold clr
          have : s5.lev = 0 := by rw [kp.lev, hl0]
          rw [← this]
        rw [e6] at h6
        refine hQ m _ w6 (by omega) ⟨i + 1, s5, rfl, by rw [kp.fl, hfs]; omega, h6, h5.inv, ?_⟩
        rw [hoe2, etg]; rfl
    · intro J13 hJ13
      refine loopN (fun m v u => ∃ (l2 : List Int) (aa : Int) (st2 : CS), v = (aa, ()) ∧ m = l2.length ∧ Ch ns aa l2 ∧ (∀ y ∈ l2, y ∈ pl) ∧ CQ ns w0 P c ps tb st2 L u ∧ st2.cur < st2.fs.length ∧ st2.lev = 0 ∧ st2.fs.length = s1.fs.length ∧ op = ckL (ckPar ns) l2 st2) pl.length
        ⟨pl, _, _, rfl, rfl, pc1, fun y hy => hy, h1, by show i < s1.fs.length; omega, rfl, rfl, hop.symm⟩ ?_
      rintro m' _ u ⟨l2, aa, st2, rfl, rfl, ch1, hsub, hu, hc, hl0, hfs, hoe3⟩ Q' hQ'
      dsimp only
      cases l2 with
      | nil =>
        have haa : aa = -1 := ch1
        rw [if_neg (by simp [haa])]
        exact hJ13 u ⟨st2, hoe3, hu, hc, hl0, hfs⟩
      | cons a l3 =>
        have haa : aa = a := ch1.1
        subst haa
        have ha0 := ch1.2.1
        have hal := pc2 aa (hsub aa (.head _))
        have halt : aa < ns.length := by have := hal.2.1; omega
        rw [if_pos (by simpa using ha0)]
        have hoe4 : op = cb (mayD ns aa st2) fun _ st => ckL (ckPar ns) l3 (decl ns aa st) := by
          rw [hoe3]
          show cb (cb (mayD ns aa st2) _) _ = _
          rw [cb_assoc]; rfl
        refine rmay_spec hu ha0 halt (fun w4 e4 h4 => ?_) (fun w4 e1 q1 e4 h4 => ?_)
        · rw [if_neg (by simp)]
          rw [e4] at hoe4
          obtain ⟨_, m1, m2⟩ := mayD_ok e4
          have hty := (good aa ha0 halt).1.f1 hal.2.2
          refine rdecl_spec h4 ha0 halt ⟨m1, m2⟩ hty hc fun w5 h5 => ?_
          refine h5.nd (k := 4) ha0 halt (by omega) rfl ?_
          have kf := (decl_kp (ns := ns) aa st2).fl
          refine hQ' l3.length _ w5 (by simp) ⟨l3, _, decl ns aa st2, rfl, rfl, ch1.2.2, fun y hy => hsub y (.tail _ hy), h5, by show st2.cur < (decl ns aa st2).fs.length; rw [kf]; exact hc, hl0, by rw [kf]; exact hfs, hoe4⟩
        · rw [if_pos (by simp)]
          rw [e4] at hoe4
          rw [hoe4] at etg
          exact stop w4 e1 q1 etg h4
theorem rmain_spec {len : Int} {K : Bool → World → Prop} (h : CQ ns w0 P c ps tb st L w) (hK1 : ∀ w' m, ckMain ns len st = .ok (m, st) → CQ ns w0 P c ps tb st L w' → K true w')
    (hK2 : ∀ w' e q, ckMain ns len st = .error (e, q) → CFl ns w0 P c ps tb e q L w' → K false w') : S.check_Checker_mainIsThere c len w K := by
  unfold S.check_Checker_mainIsThere
  refine ffind (nm := mainB) h (by decide) fun w1 h => ?_
  have hnl : (fnames st).length = st.fs.length := by simp [fnames]
  have hfl := h.inv.fl
  rcases nameIx_range (fnames st) mainB with hneg | ⟨hp0, hp1'⟩
  · rw [if_pos (by rw [hneg]; decide)]
    refine rcfail h (by decide) fun w2 h2 => ?_
    exact hK2 w2 20 len (by unfold ckMain; rw [if_pos (by rw [hneg]; decide)]) h2
  · rw [if_neg (by simpa using hp0)]
    rw [hnl] at hp1'
    have emain : ckMain ns len st = if (fnAt st.fs (nameIx (fnames st) mainB)).pi + (fnAt st.fs (nameIx (fnames st) mainB)).pr ≠ 0 ∨ (fnAt st.fs (nameIx (fnames st) mainB)).ret ≠ 0 then .error (20, psx ns (fnAt st.fs (nameIx (fnames st) mainB)).node) else .ok (nameIx (fnames st) mainB, st) := by
      unfold ckMain; rw [if_neg (by omega)]
    generalize nameIx (fnames st) mainB = m at *
    have hfn := mem_at hp0 hp1'
    obtain ⟨fn1, fn2, fn3⟩ := h.inv.fnd _ hfn
    obtain ⟨fp1, fp2, fp3⟩ := h.inv.fpp _ hfn
    refine join_W (fun u => CQ ns w0 P c ps tb st L u ∧ ((fnAt st.fs m).pi + (fnAt st.fs m).pr ≠ 0 ∨ (fnAt st.fs m).ret ≠ 0)) ?_ ?_
    · rintro u ⟨hu, hbad⟩
      refine drew_ ?_
      have hu := hu.drew
      generalize u.drew = u at *
      refine hu.tS ?_
      refine hu.fn (k := 0) hp0 hp1' (by omega) rfl ?_
      refine hu.tI (k := 6) fn1 fn2 (by omega) rfl ?_
      refine rcfail hu (by decide) fun w2 h2 => ?_
      exact hK2 w2 20 _ (by rw [emain, if_pos hbad]; rfl) h2
    · intro J9 hJ9
      refine drew_ ?_
      have h := h.drew
      generalize w1.drew = w1 at *
      refine h.fn (k := 2) hp0 hp1' (by omega) rfl ?_
      refine h.fn (k := 3) hp0 hp1' (by omega) rfl ?_
      rw [W_id (by omega) (by omega)]
      by_cases hpp : (fnAt st.fs m).pi + (fnAt st.fs m).pr ≠ 0
      · rw [if_pos (by simpa using hpp)]
        exact hJ9 w1 ⟨h, .inl hpp⟩
      rw [if_neg (by simpa using hpp)]
      refine h.fn (k := 1) hp0 hp1' (by omega) rfl ?_
      by_cases hrr : (fnAt st.fs m).ret ≠ 0
      · rw [if_pos (by simpa using hrr)]
        exact hJ9 w1 ⟨h, .inr hrr⟩
      rw [if_neg (by simpa using hrr)]
      exact hK1 w1 m (by rw [emain, if_neg (by omega)]) h
theorem rrefused_spec {e pos : Int} {K : Sl → Int → Int → Int → Sl → Sl → Sl → Int → Int → Int → World → Prop} (hK : ∀ w', Fr 0 0 w w' → K ⟨none, 0, 0⟩ (-1) 0 0 ⟨none, 0, 0⟩ ⟨none, 0, 0⟩ ⟨none, 0, 0⟩ (-1) e pos w') : S.check_refused e pos w K := by
  unfold S.check_refused
  refine newB fun w1 b1 f1 s1 => ?_
  refine ans10 (a0 := ⟨none, 0, 0⟩) (a4 := ⟨none, 0, 0⟩) (a5 := ⟨none, 0, 0⟩) (a6 := ⟨none, 0, 0⟩) b1 rfl fun w2 f2 => ?_
  exact hK w2 ((f1.any _ 1).trans f2 |>.fresh (Nat.le_refl _) 0 0)
theorem tclear_spec {f : Nat → Value} {o : Nat} {K : World → Prop} (h : Blk w c (tab 420 f)) (ho : o + 161 ≤ 420) (hK : ∀ w' f', Blk w' c (tab 420 f') → Fr c 1 w w' → (∀ j, j < o ∨ o + 161 ≤ j → f' j = f j) → TAB f' o [] → K w') : S.check_table_clear c o w K := by
  unfold S.check_table_clear
  refine join_W (fun u => ∃ f', Blk u c (tab 420 f') ∧ Fr c 1 w u ∧ (∀ j, j < o ∨ o + 16 ≤ j → f' j = f j) ∧ ∀ b, b < 16 → f' (o + b) = .int .i64 (-1)) ?_ ?_
  · rintro u ⟨f', b, F, e1, e2⟩
    refine stF b (by omega) fun u2 b2 f2 _ => ?_
    refine hK u2 _ b2 (F.trans f2) (fun j hj => by rw [fset_ne (by omega)]; exact e1 j (by omega)) ⟨by rw [fset_eq]; rfl, by simp, fun b hb => by rw [fset_ne (by omega)]; exact e2 b hb, fun k hk => (by simp at hk), fun k hk => (by simp at hk), fun k hk => (by simp at hk), fun k hk => (by simp at hk)⟩
  · intro J hJ
    refine loopN (fun m v u => ∃ (i : Nat) (f' : Nat → Value), v = ((i : Int), ()) ∧ i + m = 16 ∧ Blk u c (tab 420 f') ∧ Fr c 1 w u ∧ (∀ j, j < o ∨ o + i ≤ j → f' j = f j) ∧ ∀ b, b < i → f' (o + b) = .int .i64 (-1)) 16 ⟨0, f, rfl, by omega, h, Fr.refl _ _ _, fun j _ => rfl, fun b hb => by omega⟩ ?_
    rintro m _ u ⟨i, f', rfl, him, b, F, e1, e2⟩ Q hQ
    dsimp only
    cases m with
    | zero =>
      rw [if_neg (by simp only [decide_eq_true_eq]; omega)]
      have : i = 16 := by omega
      subst this
      exact hJ u ⟨f', b, F, e1, e2⟩
    | succ m =>
      rw [if_pos (by simp only [decide_eq_true_eq]; omega)]
      refine ⟨by omega, by omega, ?_⟩
      rw [Int.toNat_natCast, Nat.mul_one]
      refine stF b (by omega) fun u2 b2 f2 _ => ?_
      refine let_ ?_
      rw [W_succ (by omega)]
      refine hQ m _ u2 (by omega) ⟨i + 1, _, rfl, by omega, b2, F.trans f2, fun j hj => by rw [fset_ne (by omega)]; exact e1 j (by omega), fun b hb => ?_⟩
      by_cases e : b = i
      · subst e; rw [fset_eq]
      · rw [fset_ne (by omega)]; exact e2 b (by omega)
theorem rclear_spec {f : Nat → Value} {K : World → Prop} (h : Blk w c (tab 420 f)) (hK : ∀ w' f', Blk w' c (tab 420 f') → Fr c 1 w w' → f' 0 = f 0 → TAB f' 1 [] → TAB f' 165 [] → f' 162 = .int .i64 0 → f' 163 = .int .i64 0 → f' 164 = .int .i64 0 → f' 414 = .int .i64 0 → K w') : S.check_Checker_clear c w K := by
  unfold S.check_Checker_clear
  refine tclear_spec h (by omega) fun w1 f1 b1 F1 e1 t1 => ?_
  refine tclear_spec b1 (by omega) fun w2 f2 b2 F2 e2 t2 => ?_
  refine stF b2 (by omega) fun w3 b3 F3 _ => stF b3 (by omega) fun w4 b4 F4 _ => stF b4 (by omega) fun w5 b5 F5 _ => stF b5 (by omega) fun w6 b6 F6 _ => stF b6 (by omega) fun w7 b7 F7 _ => stF b7 (by omega) fun w8 b8 F8 _ => ?_
  refine hK w8 _ b8 ((((((((F1.trans F2).trans F3).trans F4).trans F5).trans F6).trans F7).trans F8)) ?_ ?_ ?_ ?_ ?_ ?_ ?_
  · rw [fset_ne (by omega), fset_ne (by omega), fset_ne (by omega), fset_ne (by omega), fset_ne (by omega), fset_ne (by omega), e2 0 (by omega), e1 0 (by omega)]
  · exact t1.congr fun j h1 h2 => by rw [fset_ne (by omega), fset_ne (by omega), fset_ne (by omega), fset_ne (by omega), fset_ne (by omega), fset_ne (by omega), e2 j (by omega)]
  · exact t2.congr fun j h1 h2 => by rw [fset_ne (by omega), fset_ne (by omega), fset_ne (by omega), fset_ne (by omega), fset_ne (by omega), fset_ne (by omega)]
  · rw [fset_ne (by omega), fset_ne (by omega), fset_ne (by omega), fset_ne (by omega), fset_ne (by omega), fset_eq]
  · rw [fset_ne (by omega), fset_ne (by omega), fset_ne (by omega), fset_ne (by omega), fset_eq]
  · rw [fset_ne (by omega), fset_ne (by omega), fset_ne (by omega), fset_eq]
  · rw [fset_ne (by omega), fset_ne (by omega), fset_eq]
end Go.Proofs.Qxb6500562aGreat
