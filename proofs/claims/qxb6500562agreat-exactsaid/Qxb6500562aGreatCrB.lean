/-
  The real checker: its state, scopes.
-/
import Derived.Test.Qxb6500562aGreatCrA
namespace Go.Proofs.Qxb6500562aGreat
open Go.Den Go.Zip
set_option linter.unusedVariables false
set_option linter.unusedSimpArgs false

structure RI (f : Nat → Value) (ns : List Nd) (ps tb bty bre : Nat) (st : CS) : Prop where
  ps : f 0 = .pointer (some ⟨ps, 0, none⟩)
  vt : TAB f 1 (vnames st)
  vp : ∀ k : Nat, k < st.vs.length → f (17 + k * 6 + 1) = .int .i64 (vrAt st.vs (k : Int)).ty ∧ f (17 + k * 6 + 2) = .int .i64 (vrAt st.vs (k : Int)).slot ∧ f (17 + k * 6 + 3) = .int .i64 (vrAt st.vs (k : Int)).level
  ni : f 162 = .int .i64 (cntI st.vs)
  nr : f 163 = .int .i64 (cntR st.vs)
  lv : f 164 = .int .i64 st.lev
  ft : TAB f 165 (fnames st)
  fp : ∀ i k : Nat, i < st.fs.length → k < 7 → (fnV (fnAt st.fs (i : Int)))[k]? = some (f (326 + i * 7 + k))
  pt : ∀ (i k : Nat) (t : Int), i < st.fs.length → k < 4 → (ptys ns (fnAt st.fs (i : Int)))[k]? = some t → f (382 + (i * 4 + k)) = .int .i64 t
  cur : f 414 = .int .i64 st.cur
  t : f 415 = .slice (tsl ns tb).a (tsl ns tb).l (tsl ns tb).c
  ty : f 416 = .slice (some ⟨bty, 0, none⟩) ns.length ns.length
  rf : f 417 = .slice (some ⟨bre, 0, none⟩) ns.length ns.length
  lvs : st.vs.Pairwise (fun a b => a.level ≤ b.level) ∧ ∀ v ∈ st.vs, v.level ≤ st.lev
def cow (c bty bre : Nat) (b : Nat) : Prop := b = c ∨ b = bty ∨ b = bre
structure CQ (ns : List Nd) (w0 : World) (P : Nat → Prop) (c ps tb : Nat) (st : CS) (L : List (Nat × List Value)) (w : World) : Prop where
  good : Good 0 ns
  le : ns.length ≤ 200
  inv : CInv ns st
  ex : ∃ f bty bre, Sep w0 P w (cow c bty bre) (L ++ tloc ns tb) ∧ (bty ≠ bre ∧ bty ≠ c ∧ bre ≠ c) ∧ Blk w c (tab 420 f) ∧ RI f ns ps tb bty bre st ∧ Blk w bty (ints st.ty) ∧ Blk w bre (ints st.ref)
/-- It has failed. -/
def CFl (ns : List Nd) (w0 : World) (P : Nat → Prop) (c ps tb : Nat) (e q : Int) (L : List (Nat × List Value)) (w : World) : Prop :=
  e ≠ 0 ∧ ∃ f bty bre, Sep w0 P w (cow c bty bre) (L ++ tloc ns tb) ∧ (bty ≠ c ∧ bre ≠ c) ∧ Blk w c (tab 420 f) ∧ f 0 = .pointer (some ⟨ps, 0, none⟩) ∧ f 418 = .int .i64 e ∧ f 419 = .int .i64 q
def CO {α : Type} (ns : List Nd) (w0 : World) (P : Nat → Prop) (c ps tb : Nat) (o : CR α) (L : List (Nat × List Value)) (w : World) : Prop :=
  match o with | .ok (_, st) => CQ ns w0 P c ps tb st L w | .error (e, q) => CFl ns w0 P c ps tb e q L w
def Rb {α : Type} (o : CR α) (r : Bool) : Prop := match o with | .ok _ => r = true | .error _ => r = false
variable {α β : Type} {ns : List Nd} {w0 w w' : World} {P : Nat → Prop} {c ps tb p : Nat} {st : CS} {L : List (Nat × List Value)} {vs : List Value}

theorem CQ.ext (h : CQ ns w0 P c ps tb st L w) (f : Fr 0 0 w w') : CQ ns w0 P c ps tb st L w' := by
  obtain ⟨g, bty, bre, h1, h2, h3, h4, h5, h6⟩ := h.ex
  exact ⟨h.good, h.le, h.inv, g, bty, bre, h1.ext f, h2, h3.fr f (by omega), h4, h5.fr f (by omega), h6.fr f (by omega)⟩
theorem CQ.drew (h : CQ ns w0 P c ps tb st L w) : CQ ns w0 P c ps tb st L w.drew := h.ext (Fr.refl 0 0 w).drew
theorem CQ.nd {x : Int} {k : Nat} {m : Int} {K : Int → Prop} (h : CQ ns w0 P c ps tb st L w) (h0 : 0 ≤ x) (h1 : x < ns.length) (hk : k < 8) (hm : (ndV (ndAt ns x))[k]? = some (.int .i64 m)) (hK : K m) :
    LdS w ⟨c, 415, none⟩ fun t => Ix t.a t.l x fun b o => LdI .i64 w ⟨b, o + Int.toNat x * 8 + k, none⟩ K := by
  obtain ⟨f, bty, bre, h1', h2, h3, h4, h5, h6⟩ := h.ex
  have hne : ns.length ≠ 0 := by omega
  have ht : Blk w tb (ns.flatMap ndV) := (h1'.lc (tb, ns.flatMap ndV) (by simp [tloc, hne])).1
  refine ldFL h3 (by omega) h4.t ?_
  simp only [tsl, if_neg hne]
  obtain ⟨m', rfl⟩ : ∃ q : Nat, x = q := ⟨x.toNat, by omega⟩
  refine ix rfl (by omega) (by omega) ?_
  refine ldI ht ?_ hK
  rw [Nat.zero_add, Int.toNat_natCast, ndCell (by omega) hk]
  exact hm
theorem CQ.ndName {x : Int} {K : ByteArray → Prop} (h : CQ ns w0 P c ps tb st L w) (h0 : 0 ≤ x) (h1 : x < ns.length) (hK : K (ndAt ns x).name) :
    LdS w ⟨c, 415, none⟩ fun t => Ix t.a t.l x fun b o => LdStr w ⟨b, o + Int.toNat x * 8 + 7, none⟩ K := by
  obtain ⟨f, bty, bre, h1', h2, h3, h4, h5, h6⟩ := h.ex
  have hne : ns.length ≠ 0 := by omega
  have ht : Blk w tb (ns.flatMap ndV) := (h1'.lc (tb, ns.flatMap ndV) (by simp [tloc, hne])).1
  refine ldFL h3 (by omega) h4.t ?_
  simp only [tsl, if_neg hne]
  obtain ⟨m', rfl⟩ : ∃ q : Nat, x = q := ⟨x.toNat, by omega⟩
  refine ix rfl (by omega) (by omega) ?_
  refine ldStr ht ?_ hK
  rw [Nat.zero_add, Int.toNat_natCast, ndCell (by omega) (by omega)]
  rfl
theorem rfail2 {e pos : Int} {K : World → Prop} (h : CQ ns w0 P c ps tb st L w) (he : e ≠ 0) (hK : ∀ w', CFl ns w0 P c ps tb e pos L w' → K w') : St1 w ⟨c, 418, none⟩ (.int .i64 e) fun w => St1 w ⟨c, 419, none⟩ (.int .i64 pos) fun w => K w := by
  obtain ⟨f, bty, bre, h1, h2, h3, h4, h5, h6⟩ := h.ex
  refine stF h3 (by omega) fun u1 b1 f1 _ => ?_
  refine stF b1 (by omega) fun u2 b2 f2 _ => ?_
  have F := f1.trans f2
  refine hK u2 ⟨he, _, bty, bre, h1.step0 (FrP.of F fun b h1 h2 => .inl (by omega)), h2.2, b2, ?_, ?_, ?_⟩
  · rw [fset_ne (by omega), fset_ne (by omega)]; exact h4.ps
  · rw [fset_ne (by omega), fset_eq]
  · rw [fset_eq]
theorem rcfail {e pos : Int} {K : Bool → World → Prop} (h : CQ ns w0 P c ps tb st L w) (he : e ≠ 0) (hK : ∀ w', CFl ns w0 P c ps tb e pos L w' → K false w') : S.check_Checker_fail c e pos w K := by
  unfold S.check_Checker_fail
  exact rfail2 h he hK
theorem rnone {e pos : Int} {K : Int → World → Prop} (h : CQ ns w0 P c ps tb st L w) (he : e ≠ 0) (hK : ∀ w', CFl ns w0 P c ps tb e pos L w' → K (-1) w') : S.check_Checker_none c e pos w K := by
  unfold S.check_Checker_none
  exact rfail2 h he hK
theorem CQ.name_sz (h : CQ ns w0 P c ps tb st L w) {x : Int} (h0 : 0 ≤ x) (h1 : x < ns.length) : (ndAt ns x).name.size ≤ 4096 := (h.good x h0 h1).1.nmz
/-- The youngest of that name. -/
theorem vfind {nm : ByteArray} {K : Int → World → Prop} (h : CQ ns w0 P c ps tb st L w) (hs : nm.size ≤ 4096) (hK : ∀ w', CQ ns w0 P c ps tb st L w' → K (nameIx (vnames st) nm) w') : S.check_table_find c 1 nm w K := by
  obtain ⟨f, bty, bre, h1, h2, h3, h4, h5, h6⟩ := h.ex
  exact tfind_spec h3 h4.vt (by omega) hs (hK _ h.drew)
theorem ffind {nm : ByteArray} {K : Int → World → Prop} (h : CQ ns w0 P c ps tb st L w) (hs : nm.size ≤ 4096) (hK : ∀ w', CQ ns w0 P c ps tb st L w' → K (nameIx (fnames st) nm) w') : S.check_table_find c 165 nm w K := by
  obtain ⟨f, bty, bre, h1, h2, h3, h4, h5, h6⟩ := h.ex
  exact tfind_spec h3 h4.ft (by omega) hs (hK _ h.drew)
/-- ty[x] = t. -/
theorem CQ.setTy {x t : Int} {K : World → Prop} (h : CQ ns w0 P c ps tb st L w) (h0 : 0 ≤ x) (h1 : x < ns.length) (hK : ∀ w', CQ ns w0 P c ps tb { st with ty := st.ty.set x.toNat t } L w' → K w') :
    LdS w ⟨c, 416, none⟩ fun l => Ix l.a l.l x fun b o => St1 w ⟨b, o + Int.toNat x * 1, none⟩ (.int .i64 t) K := by
  obtain ⟨f, bty, bre, g1, ⟨n1, n2, n3⟩, g3, g4, g5, g6⟩ := h.ex
  refine ldFL g3 (by omega) g4.ty (ix rfl h0 (by dsimp only; omega) ?_)
  have hl := h.inv.tl
  refine stA g5 (by omega) fun w' b' f' z => hK w' ?_
  exact ⟨h.good, h.le, ⟨by simpa using hl, h.inv.rl, h.inv.ti.of rfl rfl, h.inv.fl, h.inv.fnd, h.inv.fpp, h.inv.fpl, h.inv.fdn, h.inv.ci, h.inv.cr, h.inv.lv⟩, f, bty, bre, g1.step0 (FrP.of f' fun b h1 h2 => .inr (.inl (by omega))), ⟨n1, n2, n3⟩, g3.fr f' (by omega), ⟨g4.ps, g4.vt, g4.vp, g4.ni, g4.nr, g4.lv, g4.ft, g4.fp, g4.pt, g4.cur, g4.t, g4.ty, g4.rf, g4.lvs⟩, b', g6.fr f' (by omega)⟩
theorem CQ.setRef {x t : Int} {K : World → Prop} (h : CQ ns w0 P c ps tb st L w) (h0 : 0 ≤ x) (h1 : x < ns.length) (hK : ∀ w', CQ ns w0 P c ps tb (setRef x t st) L w' → K w') :
    LdS w ⟨c, 417, none⟩ fun l => Ix l.a l.l x fun b o => St1 w ⟨b, o + Int.toNat x * 1, none⟩ (.int .i64 t) K := by
  obtain ⟨f, bty, bre, g1, ⟨n1, n2, n3⟩, g3, g4, g5, g6⟩ := h.ex
  refine ldFL g3 (by omega) g4.rf (ix rfl h0 (by dsimp only; omega) ?_)
  have hl := h.inv.rl
  refine stA g6 (by omega) fun w' b' f' z => hK w' ?_
  exact ⟨h.good, h.le, ⟨h.inv.tl, by simpa [Go.Proofs.Qxb6500562aGreat.setRef] using hl, h.inv.ti.of rfl rfl, h.inv.fl, h.inv.fnd, h.inv.fpp, h.inv.fpl, h.inv.fdn, h.inv.ci, h.inv.cr, h.inv.lv⟩, f, bty, bre, g1.step0 (FrP.of f' fun b h1 h2 => .inr (.inr (by omega))), ⟨n1, n2, n3⟩, g3.fr f' (by omega), ⟨g4.ps, g4.vt, g4.vp, g4.ni, g4.nr, g4.lv, g4.ft, g4.fp, g4.pt, g4.cur, g4.t, g4.ty, g4.rf, g4.lvs⟩, g5.fr f' (by omega), b'⟩
/-- A field of a function's record. -/
theorem CQ.fn {i : Int} {k : Nat} {m : Int} {K : Int → Prop} (h : CQ ns w0 P c ps tb st L w) (h0 : 0 ≤ i) (h1 : i < st.fs.length) (hk : k < 7) (hm : (fnV (fnAt st.fs i))[k]? = some (.int .i64 m)) (hK : K m) :
    IxA 8 i (LdI .i64 w ⟨c, 326 + Int.toNat i * 7 + k, none⟩ K) := by
  obtain ⟨f, bty, bre, g1, g2, g3, g4, g5, g6⟩ := h.ex
  have hfl := h.inv.fl
  refine ⟨h0, by omega, ?_⟩
  obtain ⟨m', rfl⟩ : ∃ q : Nat, i = q := ⟨i.toNat, by omega⟩
  rw [Int.toNat_natCast]
  refine ldF g3 (by omega) ?_ hK
  have := g4.fp m' k (by omega) hk
  rw [hm] at this
  exact (Option.some.inj this).symm
/-- A dup at this level: the youngest tells. -/
theorem dup_iff (h : st.vs.Pairwise (fun a b => a.level ≤ b.level) ∧ ∀ v ∈ st.vs, v.level ≤ st.lev) (nm : ByteArray) :
    (st.vs.any (fun v => decide (v.level = st.lev ∧ bt v.name = bt nm)) = true) ↔ (0 ≤ nameIx (vnames st) nm ∧ (vrAt st.vs (nameIx (vnames st) nm)).level = st.lev) := by
  have hnl : (vnames st).length = st.vs.length := by simp [vnames]
  have hat : ∀ j (hj : j < st.vs.length), vrAt st.vs (j : Int) = st.vs[j] := fun j hj => by simp [vrAt, hj]
  have hat2 : ∀ j (hj : j < st.vs.length), (vnames st).getD j ⟨#[]⟩ = st.vs[j].name := fun j hj => by rw [vnames_at st j hj, hat j hj]
  constructor
  · intro ha
    rw [List.any_eq_true] at ha
    obtain ⟨v, hv, hd⟩ := ha
    rw [decide_eq_true_eq] at hd
    obtain ⟨j, hj, e⟩ := List.mem_iff_getElem.1 hv
    rcases lastN_spec (vnames st) nm (vnames st).length with ⟨h1, h2⟩ | ⟨k, h1, h2, h3, h4⟩
    · exfalso
      apply h2 j (by omega)
      rw [hat2 j hj, e]; exact hd.2
    · have hk : nameIx (vnames st) nm = k := h1
      rw [hk]
      refine ⟨by omega, ?_⟩
      have hkl : k < st.vs.length := by omega
      rw [hat k hkl]
      have hle := h.2 _ (List.getElem_mem hkl)
      rcases Nat.lt_trichotomy j k with hjk | hjk | hjk
      · have := List.pairwise_iff_getElem.1 h.1 j k hj hkl hjk
        rw [e] at this
        omega
      · subst hjk; rw [e]; exact hd.1
      · exfalso
        apply h4 j hjk (by omega)
        rw [hat2 j hj, e]; exact hd.2
  · rintro ⟨h0, hl⟩
    rcases lastN_spec (vnames st) nm (vnames st).length with ⟨h1, h2⟩ | ⟨k, h1, h2, h3, h4⟩
    · have : nameIx (vnames st) nm = -1 := h1
      omega
    · have hk : nameIx (vnames st) nm = k := h1
      rw [hk] at hl
      have hkl : k < st.vs.length := by omega
      rw [hat k hkl] at hl
      rw [List.any_eq_true]
      refine ⟨st.vs[k], List.getElem_mem hkl, ?_⟩
      rw [decide_eq_true_eq]
      exact ⟨hl, by rw [← hat2 k hkl]; exact h3⟩
theorem rmay_spec {x : Int} {K : Bool → World → Prop} (h : CQ ns w0 P c ps tb st L w) (h0 : 0 ≤ x) (h1 : x < ns.length) (hK1 : ∀ w', mayD ns x st = .ok ((), st) → CQ ns w0 P c ps tb st L w' → K true w')
    (hK2 : ∀ w' e q, mayD ns x st = .error (e, q) → CFl ns w0 P c ps tb e q L w' → K false w') : S.check_Checker_mayDeclare c x w K := by
  unfold S.check_Checker_mayDeclare
  refine drew_ ?_
  have h := h.drew
  generalize w.drew = w at *
  refine h.ndName h0 h1 ?_
  refine vfind h (h.name_sz h0 h1) fun w1 h => ?_
  have hlvs : st.vs.Pairwise (fun a b => a.level ≤ b.level) ∧ ∀ v ∈ st.vs, v.level ≤ st.lev := by obtain ⟨f, bty, bre, _, _, _, g4, _⟩ := h.ex; exact g4.lvs
  have hdup := dup_iff hlvs (ndAt ns x).name
  have hnl : (vnames st).length = st.vs.length := by simp [vnames]
  refine join_W (fun u => CQ ns w0 P c ps tb st L u ∧ st.vs.any (fun v => decide (v.level = st.lev ∧ bt v.name = bt (ndAt ns x).name)) = false) ?_ ?_
  · rintro u ⟨hu, hany⟩
    have many : ∀ u, CQ ns w0 P c ps tb st L u → ((2 ≤ (ndAt ns x).val ∧ 12 ≤ cntR st.vs) ∨ ((ndAt ns x).val < 2 ∧ 12 ≤ cntI st.vs)) → (LdS u ⟨c, 415, none⟩ fun t_11 => Ix t_11.a t_11.l x fun b12 o13 => LdI .i64 u ⟨b12, o13 + Int.toNat x * 8 + 6, none⟩ fun Pos_14 => S.check_Checker_fail c 19 Pos_14 u (fun r15 w => K r15 w)) := by
      intro u hu hc
      refine hu.nd (k := 6) h0 h1 (by omega) rfl ?_
      refine rcfail hu (by decide) fun w1 h1 => ?_
      refine hK2 w1 19 _ ?_ h1
      unfold mayD
      rw [if_neg (by rw [hany]; decide), if_pos hc]; rfl
    have fine : ∀ u, CQ ns w0 P c ps tb st L u → ¬ ((2 ≤ (ndAt ns x).val ∧ 12 ≤ cntR st.vs) ∨ ((ndAt ns x).val < 2 ∧ 12 ≤ cntI st.vs)) → K true u := by
      intro u hu hc
      refine hK1 u ?_ hu
      unfold mayD
      rw [if_neg (by rw [hany]; decide), if_neg hc]
    refine hu.nd (k := 5) h0 h1 (by omega) rfl ?_
    obtain ⟨f, bty, bre, g1, g2, g3, g4, g5, g6⟩ := hu.ex
    by_cases ht : 2 ≤ (ndAt ns x).val
    · rw [if_pos (by simpa using ht)]
      refine ldF g3 (by omega) g4.nr ?_
      by_cases hc : 12 ≤ cntR st.vs
      · rw [if_pos (by simp only [decide_eq_true_eq]; omega)]
        exact many u hu (.inl ⟨ht, hc⟩)
      · rw [if_neg (by simp only [decide_eq_true_eq]; omega)]
        exact fine u hu (by omega)
    · rw [if_neg (by simpa using ht)]
      refine ldF g3 (by omega) g4.ni ?_
      by_cases hc : 12 ≤ cntI st.vs
      · rw [if_pos (by simp only [decide_eq_true_eq]; omega)]
        exact many u hu (.inr ⟨by omega, hc⟩)
      · rw [if_neg (by simp only [decide_eq_true_eq]; omega)]
        exact fine u hu (by omega)
  · intro J hJ
    refine drew_ ?_
    have h := h.drew
    generalize w1.drew = w1 at *
    have nodup : ¬ (0 ≤ nameIx (vnames st) (ndAt ns x).name ∧ (vrAt st.vs (nameIx (vnames st) (ndAt ns x).name)).level = st.lev) → J w1 := fun hn => hJ w1 ⟨h, by
      cases ha : st.vs.any (fun v => decide (v.level = st.lev ∧ bt v.name = bt (ndAt ns x).name)) with
      | false => rfl
      | true => exact absurd (hdup.1 ha) hn⟩
    by_cases hp : 0 ≤ nameIx (vnames st) (ndAt ns x).name
    · rw [if_pos (by simpa using hp)]
      have hvl := vs_le h.inv
      have hr := (nameIx_range (vnames st) (ndAt ns x).name).resolve_left (by omega)
      rw [hnl] at hr
      generalize hk : nameIx (vnames st) (ndAt ns x).name = k at *
      obtain ⟨m, rfl⟩ : ∃ m : Nat, k = m := ⟨k.toNat, by omega⟩
      refine ⟨by omega, by omega, ?_⟩
      obtain ⟨f, bty, bre, g1, g2, g3, g4, g5, g6⟩ := h.ex
      rw [Int.toNat_natCast]
      refine ldF g3 (by omega) (g4.vp m (by omega)).2.2 ?_
      refine ldF g3 (by omega) g4.lv ?_
      by_cases hl : (vrAt st.vs (m : Int)).level = st.lev
      · rw [if_pos (by simp [hl])]
        refine h.nd (k := 6) h0 h1 (by omega) rfl ?_
        refine rcfail h (by decide) fun w2 h2 => ?_
        refine hK2 w2 14 _ ?_ h2
        unfold mayD
        rw [if_pos (hdup.2 ⟨hp, hl⟩)]; rfl
      · rw [if_neg (by simpa using hl)]
        exact nodup fun hh => hl hh.2
    · rw [if_neg (by simpa using hp)]
      exact nodup fun hh => hp hh.1
end Go.Proofs.Qxb6500562aGreat
