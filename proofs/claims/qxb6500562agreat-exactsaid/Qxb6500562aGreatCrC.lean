/-
  The real checker: names come and go.
-/
import Derived.Test.Qxb6500562aGreatCrB
namespace Go.Proofs.Qxb6500562aGreat
open Go.Den Go.Zip
set_option linter.unusedVariables false
set_option linter.unusedSimpArgs false
variable {α β : Type} {ns : List Nd} {w0 w w' : World} {P : Nat → Prop} {c ps tb p : Nat} {st : CS} {L : List (Nat × List Value)} {vs : List Value}

theorem TAB.congr {f f' : Nat → Value} {o : Nat} {l : List ByteArray} (h : TAB f o l) (he : ∀ j, o ≤ j → j < o + 161 → f' j = f j) : TAB f' o l := by
  have hl := h.le
  refine ⟨by rw [he _ (by omega) (by omega)]; exact h.n, h.le, fun b hb => by rw [he _ (by omega) (by omega)]; exact h.hd b hb, fun k hk => ?_, fun k hk => ?_, fun k hk => ?_, h.sz⟩
  · rw [he _ (by omega) (by omega)]; exact h.nm k hk
  · rw [he _ (by omega) (by omega)]; exact h.bk k hk
  · rw [he _ (by omega) (by omega)]; exact h.nx k hk
/-- The part of the record that scopes don't touch. -/
theorem RI.far {f f' : Nat → Value} {bty bre : Nat} {st' : CS} (h : RI f ns ps tb bty bre st) (hf : st'.fs = st.fs) (hc : st'.cur = st.cur) (he : ∀ j, j = 0 ∨ (165 ≤ j ∧ j < 418) → f' j = f j)
    (vt : TAB f' 1 (vnames st'))
    (vp : ∀ k : Nat, k < st'.vs.length → f' (17 + k * 6 + 1) = .int .i64 (vrAt st'.vs (k : Int)).ty ∧ f' (17 + k * 6 + 2) = .int .i64 (vrAt st'.vs (k : Int)).slot ∧ f' (17 + k * 6 + 3) = .int .i64 (vrAt st'.vs (k : Int)).level)
    (ni : f' 162 = .int .i64 (cntI st'.vs)) (nr : f' 163 = .int .i64 (cntR st'.vs)) (lv : f' 164 = .int .i64 st'.lev)
    (lvs : st'.vs.Pairwise (fun a b => a.level ≤ b.level) ∧ ∀ v ∈ st'.vs, v.level ≤ st'.lev) (hfl : st.fs.length ≤ 8) : RI f' ns ps tb bty bre st' := by
  refine ⟨by rw [he _ (by omega)]; exact h.ps, vt, vp, ni, nr, lv, ?_, ?_, ?_, by rw [he _ (by omega), hc]; exact h.cur, by rw [he _ (by omega)]; exact h.t, by rw [he _ (by omega)]; exact h.ty, by rw [he _ (by omega)]; exact h.rf, lvs⟩
  · unfold fnames; rw [hf]; exact h.ft.congr fun j h1 h2 => he j (by omega)
  · rw [hf]; intro i k hi hk; rw [he _ (by omega)]; exact h.fp i k hi hk
  · rw [hf]; intro i k t hi hk; rw [he _ (by omega)]; exact h.pt i k t hi hk
theorem TAB.pop {f : Nat → Value} {o : Nat} {l : List ByteArray} {nm : ByteArray} (h : TAB f o (l ++ [nm])) : TAB (fset (fset f (o + 160) (.int .i64 l.length)) (o + bkt nm) (.int .i64 (lastB l (bkt nm) l.length))) o l := by
  have hb := bkt_lt nm
  have hlen : (l ++ [nm]).length = l.length + 1 := by simp
  have hl := h.le
  rw [hlen] at hl
  have hlast : ∀ b n, n ≤ l.length → lastB (l ++ [nm]) b n = lastB l b n := fun b n hn => lastB_congr fun j hj => by rw [getD_app, if_neg (by omega)]
  refine ⟨?_, by omega, fun b hbb => ?_, fun k hk => ?_, fun k hk => ?_, fun k hk => ?_, fun k hk => ?_⟩
  · rw [fset_ne (by omega), fset_eq]
  · by_cases e : b = bkt nm
    · subst e; rw [fset_eq]
    · rw [fset_ne (by omega), fset_ne (by omega), h.hd b hbb, hlen]
      show Value.int .i64 (if bkt ((l ++ [nm]).getD l.length ⟨#[]⟩) = b then (l.length : Int) else lastB (l ++ [nm]) b l.length) = _
      rw [getD_app, if_pos rfl, if_neg (fun h => e h.symm), hlast _ _ (Nat.le_refl _)]
  · have := h.nm k (by omega)
    rw [getD_app, if_neg (by omega)] at this
    rw [fset_ne (by omega), fset_ne (by omega)]; exact this
  · have := h.bk k (by omega)
    rw [getD_app, if_neg (by omega)] at this
    rw [fset_ne (by omega), fset_ne (by omega)]; exact this
  · have := h.nx k (by omega)
    rw [getD_app, if_neg (by omega), hlast _ _ (by omega)] at this
    rw [fset_ne (by omega), fset_ne (by omega)]; exact this
  · have := h.sz k (by omega)
    rw [getD_app, if_neg (by omega)] at this
    exact this
theorem tpop_spec {f : Nat → Value} {o : Nat} {l : List ByteArray} {nm : ByteArray} {ty : Int} {K : Int → World → Prop} (h : Blk w c (tab 420 f)) (ht : TAB f o (l ++ [nm])) (ho : o + 161 ≤ 420) (hty : f (o + 16 + l.length * 6 + 1) = .int .i64 ty)
    (hK : ∀ w', Blk w' c (tab 420 (fset (fset f (o + 160) (.int .i64 l.length)) (o + bkt nm) (.int .i64 (lastB l (bkt nm) l.length)))) → Fr c 1 w w' → K ty w') : S.check_table_pop c o w K := by
  unfold S.check_table_pop
  have hb := bkt_lt nm
  have hlen : (l ++ [nm]).length = l.length + 1 := by simp
  have hl := ht.le
  have hn := ht.n
  rw [hlen] at hl hn
  have hlast : ∀ b n, n ≤ l.length → lastB (l ++ [nm]) b n = lastB l b n := fun b n hn => lastB_congr fun j hj => by rw [getD_app, if_neg (by omega)]
  refine ldF h (by omega) hn ?_
  rw [W_id (by omega) (by omega), show ((l.length + 1 : Nat) : Int) - 1 = (l.length : Int) by omega]
  refine stF h (by omega) fun u1 b1 f1 _ => ?_
  refine drew_ ?_
  have b1 := b1.drew
  have F1 := f1.drew
  generalize u1.drew = u1 at *
  refine ldF b1 (by omega) (fset_eq _ _ _) ?_
  refine ⟨by omega, by omega, ?_⟩
  rw [Int.toNat_natCast]
  have hbk := ht.bk l.length (by omega)
  rw [getD_app, if_pos rfl] at hbk
  have hnx := ht.nx l.length (by omega)
  rw [getD_app, if_pos rfl, hlast _ _ (Nat.le_refl _)] at hnx
  refine ldF b1 (by omega) (by rw [fset_ne (by omega)]; exact hbk) ?_
  refine ldF b1 (by omega) (fset_eq _ _ _) ?_
  refine ⟨by omega, by omega, ?_⟩
  rw [Int.toNat_natCast]
  refine ldF b1 (by omega) (by rw [fset_ne (by omega)]; exact hnx) ?_
  refine ⟨by omega, by omega, ?_⟩
  rw [Int.toNat_natCast, Nat.mul_one]
  refine stF b1 (by omega) fun u2 b2 f2 _ => ?_
  refine drew_ ?_
  have b2 := b2.drew
  have F2 := (F1.trans f2).drew
  generalize u2.drew = u2 at *
  refine ldF b2 (by omega) (m := l.length) (by rw [fset_ne (by omega), fset_eq]) ?_
  refine ⟨by omega, by omega, ?_⟩
  rw [Int.toNat_natCast]
  refine ldF b2 (by omega) (by rw [fset_ne (by omega), fset_ne (by omega)]; exact hty) ?_
  exact hK u2 b2 F2
theorem vnames_snoc (st : CS) {pv : List Vr} {v : Vr} (h : st.vs = pv ++ [v]) : vnames st = pv.map Vr.name ++ [v.name] := by unfold vnames; rw [h]; simp
theorem vrAt_app {pv r : List Vr} {k : Nat} (h : k < pv.length) : vrAt (pv ++ r) (k : Int) = vrAt pv (k : Int) := by
  unfold vrAt
  rw [List.getD_eq_getElem?_getD, List.getD_eq_getElem?_getD, Int.toNat_natCast, List.getElem?_append_left h]
theorem vrAt_end {pv : List Vr} {v : Vr} : vrAt (pv ++ [v]) (pv.length : Int) = v := by
  unfold vrAt; simp
/-- One name goes. -/
theorem pop1 {pv : List Vr} {v : Vr} {K : World → Prop} {next : Unit → World → Prop} (h : CQ ns w0 P c ps tb st L w) (hv : st.vs = pv ++ [v]) (hK : ∀ w', CQ ns w0 P c ps tb { st with vs := pv } L w' → next () w') :
    S.check_table_pop c 1 w (fun r4 w =>
      if (decide (r4 ≥ 2)) = true then
        LdI .i64 w ⟨c, 163, none⟩ fun nr_5 =>
        St1 w ⟨c, 163, none⟩ (.int .i64 (W (nr_5 - 1))) fun w =>
        next (()) w
      else
        LdI .i64 w ⟨c, 162, none⟩ fun ni_6 =>
        St1 w ⟨c, 162, none⟩ (.int .i64 (W (ni_6 - 1))) fun w =>
        next (()) w) := by
  have hinv := h.inv.cut hv
  have hvl := vs_le h.inv
  have hci := h.inv.ci
  have hcr := h.inv.cr
  have hfl := h.inv.fl
  obtain ⟨f, bty, bre, g1, ⟨n1, n2, n3⟩, g3, g4, g5, g6⟩ := h.ex
  have hvt := g4.vt
  rw [vnames_snoc st hv] at hvt
  have hpl : (pv.map Vr.name).length = pv.length := by simp
  have hsl : st.vs.length = pv.length + 1 := by rw [hv]; simp
  have hp := g4.vp pv.length (by omega)
  have hb := bkt_lt v.name
  rw [hv, vrAt_end] at hp
  obtain ⟨c1, c2⟩ := cnt_snoc pv v
  rw [← hv] at c1 c2
  refine tpop_spec (ty := v.ty) g3 hvt (by omega) (by rw [hpl]; exact hp.1) fun u b1 F1 => ?_
  have htab := hvt.pop
  generalize hf1 : fset (fset f (1 + 160) (.int .i64 (pv.map Vr.name).length)) (1 + bkt v.name) (.int .i64 (lastB (pv.map Vr.name) (bkt v.name) (pv.map Vr.name).length)) = f1 at *
  have hat : ∀ j, j ≠ 161 → (j < 1 ∨ 17 ≤ j) → f1 j = f j := fun j j1 j2 => by rw [← hf1, fset_ne (by omega), fset_ne (by omega)]
  have hlvs := g4.lvs
  rw [hv] at hlvs
  have fin : ∀ (j : Nat) (m : Int) (u' : World), (j = 162 ∧ m = cntI pv ∧ cntR st.vs = cntR pv ∨ j = 163 ∧ m = cntR pv ∧ cntI st.vs = cntI pv) → Blk u' c (tab 420 (fset f1 j (.int .i64 m))) → Fr c 1 w u' → next () u' := by
    intro j m u' hj hb' F'
    refine hK u' ⟨h.good, h.le, hinv, _, bty, bre, g1.step0 (FrP.of F' fun b h1 h2 => .inl (by omega)), ⟨n1, n2, n3⟩, hb', ?_, g5.fr F' (by omega), g6.fr F' (by omega)⟩
    refine g4.far rfl rfl (fun i hi => by rw [fset_ne (by omega), hat i (by omega) (by omega)]) (htab.off (by omega)) (fun k hk => ?_) ?_ ?_ ?_ ?_ hfl
    · have := g4.vp k (by simp only at hk; omega)
      rw [hv, vrAt_app hk] at this
      have hk : k < pv.length := hk
      rw [fset_ne (by omega), fset_ne (by omega), fset_ne (by omega), hat _ (by omega) (by omega), hat _ (by omega) (by omega), hat _ (by omega) (by omega)]
      exact this
    · rcases hj with ⟨rfl, rfl, _⟩ | ⟨rfl, rfl, e⟩
      · rw [fset_eq]
      · rw [fset_ne (by omega), hat _ (by omega) (by omega), g4.ni, e]
    · rcases hj with ⟨rfl, rfl, e⟩ | ⟨rfl, rfl, _⟩
      · rw [fset_ne (by omega), hat _ (by omega) (by omega), g4.nr, e]
      · rw [fset_eq]
    · rw [fset_ne (by omega), hat _ (by omega) (by omega)]; exact g4.lv
    · exact ⟨(List.pairwise_append.1 hlvs.1).1, fun v' hv' => hlvs.2 v' (List.mem_append_left _ hv')⟩
  by_cases ht : 2 ≤ v.ty
  · rw [if_pos (by simpa using ht)]
    rw [if_neg (by omega)] at c1
    rw [if_pos ht] at c2
    refine ldF b1 (by omega) (m := cntR st.vs) (by rw [hat _ (by omega) (by omega)]; exact g4.nr) ?_
    rw [W_id (by omega) (by omega)]
    refine stF b1 (by omega) fun u2 b2 f2 _ => ?_
    exact fin 163 _ u2 (.inr ⟨rfl, by omega, by omega⟩) b2 (F1.trans f2)
  · rw [if_neg (by simpa using ht)]
    rw [if_pos (by omega)] at c1
    rw [if_neg ht] at c2
    refine ldF b1 (by omega) (m := cntI st.vs) (by rw [hat _ (by omega) (by omega)]; exact g4.ni) ?_
    rw [W_id (by omega) (by omega)]
    refine stF b1 (by omega) fun u2 b2 f2 _ => ?_
    exact fin 162 _ u2 (.inl ⟨rfl, by omega, by omega⟩) b2 (F1.trans f2)
theorem rundo_spec {pv r : List Vr} {K : World → Prop} (h : CQ ns w0 P c ps tb st L w) (hv : st.vs = pv ++ r) (hK : ∀ w', CQ ns w0 P c ps tb { st with vs := pv } L w' → K w') : S.check_Checker_undo c pv.length w K := by
  unfold S.check_Checker_undo
  refine loopN (fun m v u => ∃ (r : List Vr) (s : CS), CQ ns w0 P c ps tb s L u ∧ s.vs = pv ++ r ∧ m = r.length ∧ ({ s with vs := pv } : CS) = { st with vs := pv }) r.length ⟨r, st, h, hv, rfl, rfl⟩ ?_
  rintro m _ u ⟨r, s, h, hv, rfl, hs⟩ Q hQ
  have hvl := vs_le h.inv
  have hsl : s.vs.length = pv.length + r.length := by rw [hv]; simp
  obtain ⟨f, bty, bre, g1, g2, g3, g4, g5, g6⟩ := h.ex
  have hn := g4.vt.n
  have hnl : (vnames s).length = s.vs.length := by simp [vnames]
  rw [hnl, hsl] at hn
  refine ldF g3 (by omega) hn ?_
  rcases List.eq_nil_or_concat r with rfl | ⟨r', v, rfl⟩
  · rw [if_neg (by simp)]
    refine hK u ?_
    rw [← hs]
    have : s.vs = pv := by rw [hv]; simp
    have e : ({ s with vs := pv } : CS) = s := by rw [← this]
    rw [e]; exact h
  · rw [List.concat_eq_append] at *
    rw [if_pos (by simp; omega)]
    refine pop1 (K := K) h (pv := pv ++ r') (v := v) (by rw [hv, List.append_assoc]) fun w' h' => ?_
    exact hQ r'.length () w' (by simp) ⟨r', _, h', rfl, rfl, hs⟩
theorem fnAt_modify {l : List Fn} {i : Nat} {g : Fn → Fn} (k : Nat) (h : k < l.length) : fnAt (l.modify i g) (k : Int) = if k = i then g (fnAt l (k : Int)) else fnAt l (k : Int) := by
  unfold fnAt
  rw [Int.toNat_natCast, List.getD_eq_getElem?_getD, List.getD_eq_getElem?_getD, List.getElem?_modify, List.getElem?_eq_getElem h]
  by_cases e : i = k
  · subst e; simp
  · rw [if_neg (fun h => e h.symm)]; simp [e]
/-- A name comes in sight: what stands behind the counting. -/
theorem decl_mid {f : Nat → Value} {bty bre x : Nat} (h : CQ ns w0 P c ps tb st L w) (h0 : x < ns.length) (hm : (2 ≤ (ndAt ns x).val → cntR st.vs < 12) ∧ ((ndAt ns x).val < 2 → cntI st.vs < 12)) (ht : tyOK (ndAt ns x).val) (hc : st.cur < st.fs.length)
    (hr : RI f ns ps tb bty bre st) {f3 : Nat → Value} (ho : ∀ j, j ≠ 162 → j ≠ 163 → (j < 326 + st.cur * 7 + 4 ∨ 326 + st.cur * 7 + 5 < j) → f3 j = f j)
    (hni : f3 162 = .int .i64 (cntI (decl ns x st).vs)) (hnr : f3 163 = .int .i64 (cntR (decl ns x st).vs))
    (hli : f3 (326 + st.cur * 7 + 4) = .int .i64 (bump (ndAt ns x).val (slotOf ns x st + 1) (fnAt st.fs st.cur)).li) (hlr : f3 (326 + st.cur * 7 + 5) = .int .i64 (bump (ndAt ns x).val (slotOf ns x st + 1) (fnAt st.fs st.cur)).lr) :
    RI (pushF f3 1 (vnames st) (ndAt ns x).name (ndAt ns x).val (slotOf ns x st) st.lev) ns ps tb bty bre { decl ns x st with ref := st.ref } := by
  have hfl := h.inv.fl
  have hnl : (vnames st).length = st.vs.length := by simp [vnames]
  have hvl : st.vs.length < 24 := by
    have h1 := vs_le (h.inv.decl hm ht)
    have : (decl ns x st).vs.length = st.vs.length + 1 := by simp [decl]
    omega
  have hvt3 : TAB f3 1 (vnames st) := hr.vt.congr fun j h1 h2 => ho j (by omega) (by omega) (by omega)
  have hsz := (h.good x (by omega) (by omega)).1.nmz
  have off : ∀ j, (j < 1 ∨ 162 ≤ j) → pushF f3 1 (vnames st) (ndAt ns x).name (ndAt ns x).val (slotOf ns x st) st.lev j = f3 j := fun j hj => pushF_off (by omega) (by omega)
  have hbk := fun g => bump_keep (ndAt ns x).val (slotOf ns x st + 1) g
  have hfd : ∀ k, k < st.fs.length → fnAt (decl ns x st).fs (k : Int) = if k = st.cur then bump (ndAt ns x).val (slotOf ns x st + 1) (fnAt st.fs (k : Int)) else fnAt st.fs (k : Int) := fun k hk => fnAt_modify k hk
  have hfdl : (decl ns x st).fs.length = st.fs.length := by simp [decl]
  refine ⟨?_, ?_, ?_, ?_, ?_, ?_, ?_, ?_, ?_, ?_, ?_, ?_, ?_, ?_⟩
  · rw [off _ (by omega), ho _ (by omega) (by omega) (by omega)]; exact hr.ps
  · have : vnames ({ decl ns x st with ref := st.ref } : CS) = vnames st ++ [(ndAt ns x).name] := by simp [vnames, decl]
    rw [this]
    exact pushF_tab hvt3 (by omega) hsz
  · intro k hk
    have hk : k < st.vs.length + 1 := by simpa [decl] using hk
    have hvs : ({ decl ns x st with ref := st.ref } : CS).vs = st.vs ++ [⟨(ndAt ns x).name, (ndAt ns x).val, slotOf ns x st, st.lev⟩] := rfl
    rw [hvs]
    by_cases e : k = st.vs.length
    · subst e
      rw [vrAt_end]
      have := pushF_new (f := f3) (o := 1) (l := vnames st) (nm := (ndAt ns x).name) (ty := (ndAt ns x).val) (slot := slotOf ns x st) (level := st.lev) (by omega)
      rw [hnl] at this
      exact this
    · have hk : k < st.vs.length := by omega
      rw [vrAt_app hk]
      have key : ∀ i, (i = 1 ∨ i = 2 ∨ i = 3) → pushF f3 1 (vnames st) (ndAt ns x).name (ndAt ns x).val (slotOf ns x st) st.lev (17 + k * 6 + i) = f (17 + k * 6 + i) := fun i hi => by
        have := pushF_pay (f := f3) (o := 1) (l := vnames st) (nm := (ndAt ns x).name) (ty := (ndAt ns x).val) (slot := slotOf ns x st) (level := st.lev) (k := k) (i := i) (by omega) hi (by omega)
        rw [show 17 + k * 6 + i = 1 + 16 + k * 6 + i by omega, this, ho _ (by omega) (by omega) (by omega)]
      rw [key 1 (by omega), key 2 (by omega), key 3 (by omega)]
      exact hr.vp k hk
  · rw [off _ (by omega)]; exact hni
  · rw [off _ (by omega)]; exact hnr
  · rw [off _ (by omega), ho _ (by omega) (by omega) (by omega)]; exact hr.lv
  · have : fnames ({ decl ns x st with ref := st.ref } : CS) = fnames st := map_modify _ _ (fun f => (hbk f).2.2.2.2) _ _
    rw [this]
    exact hr.ft.congr fun j h1 h2 => by rw [off _ (by omega), ho _ (by omega) (by omega) (by omega)]
  · intro i k hi hk
    have hi : i < st.fs.length := by rw [← hfdl]; exact hi
    show (fnV (fnAt (decl ns x st).fs (i : Int)))[k]? = _
    rw [off _ (by omega), hfd i hi]
    have h7 := hr.fp i k hi hk
    by_cases e : i = st.cur
    · subst e
      rw [if_pos rfl]
      by_cases e4 : k = 4
      · subst e4; rw [hli]; rfl
      by_cases e5 : k = 5
      · subst e5; rw [hlr]; rfl
      rw [ho _ (by omega) (by omega) (by omega), ← h7]
      obtain ⟨q1, q2, q3, q4, q5⟩ := hbk (fnAt st.fs (st.cur : Int))
      have hk' : k = 0 ∨ k = 1 ∨ k = 2 ∨ k = 3 ∨ k = 6 := by omega
      rcases hk' with rfl | rfl | rfl | rfl | rfl
      · simp only [fnV, q1]; rfl
      · simp only [fnV, q2]; rfl
      · simp only [fnV, q3]; rfl
      · simp only [fnV, q4]; rfl
      · simp only [fnV, q5]; rfl
    · rw [if_neg e, ho _ (by omega) (by omega) (by omega)]; exact h7
  · intro i k t hi hk hp
    have hi : i < st.fs.length := by rw [← hfdl]; exact hi
    rw [off _ (by omega), ho _ (by omega) (by omega) (by omega)]
    refine hr.pt i k t hi hk ?_
    have : ptys ns (fnAt ({ decl ns x st with ref := st.ref } : CS).fs (i : Int)) = ptys ns (fnAt st.fs (i : Int)) := by
      show ptys ns (fnAt (decl ns x st).fs (i : Int)) = _
      rw [hfd i hi]
      split
      · unfold ptys; rw [(hbk _).1]
      · rfl
    rw [← this]; exact hp
  · rw [off _ (by omega), ho _ (by omega) (by omega) (by omega)]; exact hr.cur
  · rw [off _ (by omega), ho _ (by omega) (by omega) (by omega)]; exact hr.t
  · rw [off _ (by omega), ho _ (by omega) (by omega) (by omega)]; exact hr.ty
  · rw [off _ (by omega), ho _ (by omega) (by omega) (by omega)]; exact hr.rf
  · refine ⟨List.pairwise_append.2 ⟨hr.lvs.1, by simp, fun a ha b hb => ?_⟩, fun v hv => ?_⟩
    · rw [List.mem_singleton] at hb; subst hb; exact hr.lvs.2 a ha
    · rcases List.mem_append.1 hv with hv | hv
      · exact hr.lvs.2 v hv
      · rw [List.mem_singleton] at hv; subst hv; exact Int.le_refl _
theorem rdecl_spec {x : Int} {K : World → Prop} (h : CQ ns w0 P c ps tb st L w) (h0 : 0 ≤ x) (h1 : x < ns.length) (hm : (2 ≤ (ndAt ns x).val → cntR st.vs < 12) ∧ ((ndAt ns x).val < 2 → cntI st.vs < 12)) (ht : tyOK (ndAt ns x).val) (hc : st.cur < st.fs.length)
    (hK : ∀ w', CQ ns w0 P c ps tb (decl ns x st) L w' → K w') : S.check_Checker_declare c x w K := by
  unfold S.check_Checker_declare
  obtain ⟨x, rfl⟩ : ∃ n : Nat, x = n := ⟨x.toNat, by omega⟩
  refine h.nd (k := 5) h0 h1 (by omega) rfl ?_
  have hinv := h.inv.decl hm ht
  have hfl := h.inv.fl
  have hci := h.inv.ci
  have hcr := h.inv.cr
  obtain ⟨f, bty, bre, g1, ⟨n1, n2, n3⟩, g3, g4, g5, g6⟩ := h.ex
  obtain ⟨cn1, cn2⟩ := cnt_snoc st.vs ⟨(ndAt ns x).name, (ndAt ns x).val, slotOf ns x st, st.lev⟩
  have hvl : st.vs.length < 24 := by
    have h1 := vs_le hinv
    have : (decl ns x st).vs.length = st.vs.length + 1 := by simp [decl]
    omega
  have hnl : (vnames st).length = st.vs.length := by simp [vnames]
  have hsz := (h.good x (by omega) (by omega)).1.nmz
  have fli : f (326 + st.cur * 7 + 4) = .int .i64 (fnAt st.fs st.cur).li := by have := g4.fp st.cur 4 hc (by omega); exact (Option.some.inj this).symm
  have flr : f (326 + st.cur * 7 + 5) = .int .i64 (fnAt st.fs st.cur).lr := by have := g4.fp st.cur 5 hc (by omega); exact (Option.some.inj this).symm
  refine join_P (fun (slot : Int) u => slot = slotOf ns x st ∧ Fr c 1 w u ∧ ∃ f3 : Nat → Value, Blk u c (tab 420 f3) ∧ (∀ j, j ≠ 162 → j ≠ 163 → (j < 326 + st.cur * 7 + 4 ∨ 326 + st.cur * 7 + 5 < j) → f3 j = f j) ∧
    f3 162 = .int .i64 (cntI (decl ns x st).vs) ∧ f3 163 = .int .i64 (cntR (decl ns x st).vs) ∧ f3 (326 + st.cur * 7 + 4) = .int .i64 (bump (ndAt ns x).val (slotOf ns x st + 1) (fnAt st.fs st.cur)).li ∧ f3 (326 + st.cur * 7 + 5) = .int .i64 (bump (ndAt ns x).val (slotOf ns x st + 1) (fnAt st.fs st.cur)).lr) ?_ ?_
  · rintro slot u ⟨rfl, F, f3, b3, ho, e1, e2, e3, e4⟩
    have hmid := decl_mid h (by omega) hm ht hc g4 ho e1 e2 e3 e4
    have hne : ns.length ≠ 0 := by omega
    have htb : Blk w tb (ns.flatMap ndV) := (g1.lc (tb, ns.flatMap ndV) (by simp [tloc, hne])).1
    have hcx : tb ≠ c := (g1.lc (tb, ns.flatMap ndV) (by simp [tloc, hne])).2 ∘ fun e => by rw [e]; exact .inl rfl
    refine drew_ ?_
    have b3 := b3.drew
    have htb := (htb.fr F (by omega)).drew
    have F := F.drew
    generalize u.drew = u at *
    have nd : ∀ (k : Nat) (m : Int) (K : Int → Prop), k < 8 → (ndV (ndAt ns x))[k]? = some (.int .i64 m) → K m → LdS u ⟨c, 415, none⟩ fun t => Ix t.a t.l (x : Int) fun b o => LdI .i64 u ⟨b, o + Int.toNat (x : Int) * 8 + k, none⟩ K := by
      intro k m K hk hm hK
      refine ldFL b3 (by omega) (by rw [ho _ (by omega) (by omega) (by omega)]; exact g4.t) ?_
      simp only [tsl, if_neg hne]
      refine ix rfl (by omega) (by omega) (ldI htb ?_ hK)
      rw [Nat.zero_add, Int.toNat_natCast, ndCell (by omega) hk]
      exact hm
    refine ldFL b3 (by omega) (by rw [ho _ (by omega) (by omega) (by omega)]; exact g4.t) ?_
    simp only [tsl, if_neg hne]
    refine ix rfl (by omega) (by omega) (ldStr htb (m := (ndAt ns x).name) ?_ ?_)
    · rw [Nat.zero_add, Int.toNat_natCast, ndCell (by omega) (by omega)]; rfl
    refine nd 5 _ _ (by omega) rfl ?_
    refine ldF b3 (by omega) (by rw [ho _ (by omega) (by omega) (by omega)]; exact g4.lv) ?_
    have hvt3 : TAB f3 1 (vnames st) := g4.vt.congr fun j h1 h2 => ho j (by omega) (by omega) (by omega)
    refine tpush_spec b3 hvt3 (by omega) (by omega) hsz fun u2 b2 f2 => ?_
    have F := F.trans f2
    have hq : CQ ns w0 P c ps tb { decl ns x st with ref := st.ref } L u2 :=
      ⟨h.good, h.le, ⟨hinv.tl, h.inv.rl, hinv.ti.of rfl rfl, hinv.fl, hinv.fnd, hinv.fpp, hinv.fpl, hinv.fdn, hinv.ci, hinv.cr, hinv.lv⟩, _, bty, bre, g1.step0 (FrP.of F fun b h1 h2 => .inl (by omega)), ⟨n1, n2, n3⟩, b2, hmid, g5.fr F (by omega), g6.fr F (by omega)⟩
    exact hq.setRef h0 h1 fun w3 h3 => hK w3 h3
  · intro J hJ
    by_cases ht2 : 2 ≤ (ndAt ns x).val
    · rw [if_pos (by simpa using ht2)]
      have hs : slotOf ns x st = cntR st.vs := by unfold slotOf; rw [if_pos ht2]
      rw [if_neg (by dsimp only; omega)] at cn1
      rw [if_pos ht2] at cn2
      have hlt := hm.1 ht2
      refine ldF g3 (by omega) g4.nr (ldF g3 (by omega) g4.nr ?_)
      rw [W_succ (by omega)]
      refine stF g3 (by omega) fun u1 b1 f1 _ => drew_ ?_
      have b1 := b1.drew
      have F1 := f1.drew
      generalize u1.drew = u1 at *
      refine ldF b1 (by omega) (fset_eq _ _ _) ?_
      refine ldF b1 (by omega) (by rw [fset_ne (by omega)]; exact g4.cur) ?_
      refine ⟨by omega, by omega, ?_⟩
      rw [Int.toNat_natCast]
      refine ldF b1 (by omega) (by rw [fset_ne (by omega)]; exact flr) ?_
      have base : ∀ (u : World) (f3 : Nat → Value), Fr c 1 w u → Blk u c (tab 420 f3) → (∀ j, j ≠ 163 → j ≠ 326 + st.cur * 7 + 5 → f3 j = f j) → f3 163 = .int .i64 ((cntR st.vs + 1 : Nat) : Int) →
          f3 (326 + st.cur * 7 + 5) = .int .i64 (if (fnAt st.fs st.cur).lr < ((cntR st.vs + 1 : Nat) : Int) then ((cntR st.vs + 1 : Nat) : Int) else (fnAt st.fs st.cur).lr) → J (cntR st.vs) u := by
        intro u f3 F b3 ho e1 e2
        refine hJ _ u ⟨by rw [hs], F, f3, b3, fun j a b d => ho j (by omega) (by omega), ?_, ?_, ?_, ?_⟩
        · rw [ho _ (by omega) (by omega), g4.ni]; show _ = Value.int .i64 (cntI (st.vs ++ [_])); rw [cn1]; rfl
        · rw [e1]; show _ = Value.int .i64 (cntR (st.vs ++ [_])); rw [cn2]
        · rw [ho _ (by omega) (by omega), fli]; unfold bump; rw [if_pos ht2]
        · rw [e2, hs]; unfold bump; rw [if_pos ht2]
      by_cases hg : (fnAt st.fs st.cur).lr < ((cntR st.vs + 1 : Nat) : Int)
      · rw [if_pos (by simpa using hg)]
        refine drew_ ?_
        have b1 := b1.drew
        have F1 := F1.drew
        generalize u1.drew = u1 at *
        refine ldF b1 (by omega) (by rw [fset_ne (by omega)]; exact g4.cur) ?_
        refine ldF b1 (by omega) (fset_eq _ _ _) ?_
        refine ⟨by omega, by omega, ?_⟩
        rw [Int.toNat_natCast]
        refine stF b1 (by omega) fun u2 b2 f2 _ => ?_
        refine base u2 _ (F1.trans f2) b2 (fun j a b => by rw [fset_ne (by omega), fset_ne (by omega)]) (by rw [fset_ne (by omega), fset_eq]) ?_
        rw [fset_eq, if_pos hg]
      · rw [if_neg (by simpa using hg)]
        refine base u1 _ F1 b1 (fun j a b => by rw [fset_ne (by omega)]) (fset_eq _ _ _) ?_
        rw [fset_ne (by omega), if_neg hg]; exact flr
    · rw [if_neg (by simpa using ht2)]
      have hs : slotOf ns x st = cntI st.vs := by unfold slotOf; rw [if_neg ht2]
      rw [if_pos (by dsimp only; omega)] at cn1
      rw [if_neg ht2] at cn2
      have hlt := hm.2 (by omega)
      refine ldF g3 (by omega) g4.ni (ldF g3 (by omega) g4.ni ?_)
      rw [W_succ (by omega)]
      refine stF g3 (by omega) fun u1 b1 f1 _ => drew_ ?_
      have b1 := b1.drew
      have F1 := f1.drew
      generalize u1.drew = u1 at *
      refine ldF b1 (by omega) (fset_eq _ _ _) ?_
      refine ldF b1 (by omega) (by rw [fset_ne (by omega)]; exact g4.cur) ?_
      refine ⟨by omega, by omega, ?_⟩
      rw [Int.toNat_natCast]
      refine ldF b1 (by omega) (by rw [fset_ne (by omega)]; exact fli) ?_
      have base : ∀ (u : World) (f3 : Nat → Value), Fr c 1 w u → Blk u c (tab 420 f3) → (∀ j, j ≠ 162 → j ≠ 326 + st.cur * 7 + 4 → f3 j = f j) → f3 162 = .int .i64 ((cntI st.vs + 1 : Nat) : Int) →
          f3 (326 + st.cur * 7 + 4) = .int .i64 (if (fnAt st.fs st.cur).li < ((cntI st.vs + 1 : Nat) : Int) then ((cntI st.vs + 1 : Nat) : Int) else (fnAt st.fs st.cur).li) → J (cntI st.vs) u := by
        intro u f3 F b3 ho e1 e2
        refine hJ _ u ⟨by rw [hs], F, f3, b3, fun j a b d => ho j (by omega) (by omega), ?_, ?_, ?_, ?_⟩
        · rw [e1]; show _ = Value.int .i64 (cntI (st.vs ++ [_])); rw [cn1]
        · rw [ho _ (by omega) (by omega), g4.nr]; show _ = Value.int .i64 (cntR (st.vs ++ [_])); rw [cn2]; rfl
        · rw [e2, hs]; unfold bump; rw [if_neg ht2]
        · rw [ho _ (by omega) (by omega), flr]; unfold bump; rw [if_neg ht2]
      by_cases hg : (fnAt st.fs st.cur).li < ((cntI st.vs + 1 : Nat) : Int)
      · rw [if_pos (by simpa using hg)]
        refine drew_ ?_
        have b1 := b1.drew
        have F1 := F1.drew
        generalize u1.drew = u1 at *
        refine ldF b1 (by omega) (by rw [fset_ne (by omega)]; exact g4.cur) ?_
        refine ldF b1 (by omega) (fset_eq _ _ _) ?_
        refine ⟨by omega, by omega, ?_⟩
        rw [Int.toNat_natCast]
        refine stF b1 (by omega) fun u2 b2 f2 _ => ?_
        refine base u2 _ (F1.trans f2) b2 (fun j a b => by rw [fset_ne (by omega), fset_ne (by omega)]) (by rw [fset_ne (by omega), fset_eq]) ?_
        rw [fset_eq, if_pos hg]
      · rw [if_neg (by simpa using hg)]
        refine base u1 _ F1 b1 (fun j a b => by rw [fset_ne (by omega)]) (fset_eq _ _ _) ?_
        rw [fset_ne (by omega), if_neg hg]; exact fli
end Go.Proofs.Qxb6500562aGreat
