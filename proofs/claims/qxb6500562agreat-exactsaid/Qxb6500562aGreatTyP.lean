/-
  What the checker's marks say of an accepted program: expressions.
-/
import Derived.Test.Qxb6500562aGreatCkR
import Derived.Test.Qxb6500562aGreatGnP
namespace Go.Proofs.Qxb6500562aGreat
open Go.Den Go.Zip
set_option linter.unusedVariables false
set_option linter.unusedSimpArgs false
variable {ns : List Nd} {st st' s : CS} {x lo hi t : Int} {n : Nat} {T R : List Int} {fs : List Fn} {li lr : Int}

def cntI' (T : List Int) (l : List Int) : Nat := l.countP fun y => decide (gI T y < 2)
def cntR' (T : List Int) (l : List Int) : Nat := l.countP fun y => decide (2 ≤ gI T y)
section
variable (ns : List Nd) (T R : List Int) (fs : List Fn) (li lr : Int)
def slotOK (ty r : Int) : Prop := 0 ≤ r ∧ (if 2 ≤ ty then r < lr else r < li)
def TE : Nat → Int → Prop
  | 0, _ => False
  | n + 1, x =>
    ((ndAt ns x).kind = 10 ∨ (ndAt ns x).kind = 11 ∨ (ndAt ns x).kind = 17 → gI T x < 2) ∧
    ((ndAt ns x).kind = 12 → slotOK li lr (gI T x) (gI R x)) ∧
    ((ndAt ns x).kind = 19 → TE n (ndAt ns x).a ∧ gI T (ndAt ns x).a < 2 ∧ gI T x < 2) ∧
    ((ndAt ns x).kind = 18 → TE n (ndAt ns x).a ∧ TE n (ndAt ns x).b ∧ gI T (ndAt ns x).a < 2 ∧ gI T (ndAt ns x).b < 2 ∧ gI T x < 2) ∧
    ((ndAt ns x).kind = 14 → TE n (ndAt ns x).a ∧ TE n (ndAt ns x).b ∧ 2 ≤ gI T (ndAt ns x).a ∧ gI T (ndAt ns x).b < 2) ∧
    ((ndAt ns x).kind = 15 → TE n (ndAt ns x).a ∧ gI T (ndAt ns x).a < 2 ∧ 2 ≤ gI T x ∧ 2 ≤ (ndAt ns x).val) ∧
    ((ndAt ns x).kind = 16 → TE n (ndAt ns x).a ∧ 2 ≤ gI T (ndAt ns x).a ∧ gI T x < 2) ∧
    ((ndAt ns x).kind = 13 → (∀ y ∈ kids ns (ndAt ns x).a, TE n y) ∧ 0 ≤ gI R x ∧ gI R x < fs.length ∧ (cntI' T (kids ns (ndAt ns x).a) : Int) = (fnAt fs (gI R x)).pi ∧ (cntR' T (kids ns (ndAt ns x).a) : Int) = (fnAt fs (gI R x)).pr ∧ gI T x = (fnAt fs (gI R x)).ret)
end
theorem TE.mono : ∀ {n k : Nat} {x : Int}, TE ns T R fs li lr n x → n ≤ k → TE ns T R fs li lr k x
  | 0, k, x, h, _ => h.elim
  | n + 1, 0, x, h, hk => absurd hk (by omega)
  | n + 1, k + 1, x, h, hk => by
    obtain ⟨h1, h2, h3, h4, h5, h6, h7, h8⟩ := h
    have m : ∀ y, TE ns T R fs li lr n y → TE ns T R fs li lr k y := fun y hy => TE.mono hy (by omega)
    exact ⟨h1, h2, fun e => ⟨m _ (h3 e).1, (h3 e).2⟩, fun e => ⟨m _ (h4 e).1, m _ (h4 e).2.1, (h4 e).2.2⟩, fun e => ⟨m _ (h5 e).1, m _ (h5 e).2.1, (h5 e).2.2⟩, fun e => ⟨m _ (h6 e).1, (h6 e).2⟩, fun e => ⟨m _ (h7 e).1, (h7 e).2⟩, fun e => ⟨fun y hy => m y ((h8 e).1 y hy), (h8 e).2⟩⟩
/-- The final marks of the nodes lo .. hi are those of st. -/
def Ag (T R : List Int) (lo hi : Int) (st : CS) : Prop := ∀ y, lo ≤ y → y ≤ hi → gI T y = gI st.ty y ∧ gI R y = gI st.ref y
theorem gI_congr {a b : List Int} {y : Int} (h : a[y.toNat]? = b[y.toNat]?) : gI a y = gI b y := by
  unfold gI; rw [List.getD_eq_getElem?_getD, List.getD_eq_getElem?_getD, h]
theorem Ag.back {lo2 hi2 hi' : Int} (h : Ag T R lo hi st') (f : Fx lo2 hi2 s st') (h0 : 0 ≤ lo) (h1 : hi' < lo2) (h2 : hi' ≤ hi) : Ag T R lo hi' s := fun y y1 y2 => by
  obtain ⟨a, b⟩ := h y y1 (by omega)
  have e1 := f.te y.toNat (.inl (by omega))
  have e2 := f.re y.toNat (.inl (by omega))
  exact ⟨a.trans (gI_congr e1), b.trans (gI_congr e2)⟩
theorem Ag.sub {lo' hi' : Int} (h : Ag T R lo hi st) (h1 : lo ≤ lo') (h2 : hi' ≤ hi) : Ag T R lo' hi' st := fun y y1 y2 => h y (by omega) (by omega)
theorem gI_set {l : List Int} {x v : Int} (h0 : 0 ≤ x) (h1 : x < l.length) : gI (l.set x.toNat v) x = v := by
  unfold gI; rw [List.getD_eq_getElem?_getD, List.getElem?_set_self (by omega)]; rfl
theorem gI_some {l : List Int} {x v : Int} (h : l[x.toNat]? = some v) : gI l x = v := by unfold gI; rw [List.getD_eq_getElem?_getD, h]; rfl
/-- The functions, but for their locals' counts. -/
structure FS (fs fs' : List Fn) : Prop where
  len : fs'.length = fs.length
  eq : ∀ i, (fnAt fs' i).node = (fnAt fs i).node ∧ (fnAt fs' i).ret = (fnAt fs i).ret ∧ (fnAt fs' i).pi = (fnAt fs i).pi ∧ (fnAt fs' i).pr = (fnAt fs i).pr
  mo : ∀ i, (fnAt fs i).li ≤ (fnAt fs' i).li ∧ (fnAt fs i).lr ≤ (fnAt fs' i).lr
theorem FS.refl (fs : List Fn) : FS fs fs := ⟨rfl, fun _ => ⟨rfl, rfl, rfl, rfl⟩, fun _ => ⟨Int.le_refl _, Int.le_refl _⟩⟩
theorem FS.trans {a b c : List Fn} (h : FS a b) (k : FS b c) : FS a c := ⟨k.len.trans h.len, fun i => ⟨(k.eq i).1.trans (h.eq i).1, (k.eq i).2.1.trans (h.eq i).2.1, (k.eq i).2.2.1.trans (h.eq i).2.2.1, (k.eq i).2.2.2.trans (h.eq i).2.2.2⟩, fun i => ⟨Int.le_trans (h.mo i).1 (k.mo i).1, Int.le_trans (h.mo i).2 (k.mo i).2⟩⟩
def FnOK (ns : List Nd) (f : Fn) : Prop := (((kids ns (ndAt ns f.node).a).countP fun q => decide ((ndAt ns q).val < 2) : Nat) : Int) = f.pi ∧ (((kids ns (ndAt ns f.node).a).countP fun q => decide (2 ≤ (ndAt ns q).val) : Nat) : Int) = f.pr
def VsOK (vs : List Vr) (li lr : Int) : Prop := ∀ v ∈ vs, slotOK li lr v.ty v.slot
theorem odd_none : ∀ (l ts qs : List Int), oddArg l ts qs = none → ts.length = l.length → qs.length = l.length → ts = qs
  | [], [], [], _, _, _ => rfl
  | a :: l, t :: ts, q :: qs, h, h1, h2 => by
    unfold oddArg at h
    split at h
    · rename_i e
      rw [e, odd_none l ts qs h (by simpa using h1) (by simpa using h2)]
    · cases h
  | [], _ :: _, _, _, h, _ => by simp at h
  | [], [], _ :: _, _, _, h => by simp at h
  | _ :: _, [], _, _, h, _ => by simp at h
  | _ :: _, _ :: _, [], _, _, h => by simp at h
theorem cnt_map (l qs : List Int) (f : Int → Int) (p : Int → Bool) (h : l.map f = qs) : l.countP (fun y => p (f y)) = qs.countP p := by
  rw [← h, List.countP_map]; rfl
/-- The premises of an expression's check. -/
structure QE (ns : List Nd) (fs : List Fn) (li lr : Int) (st : CS) : Prop where
  ti : TyInv st
  tl : st.ty.length = ns.length
  rl : st.ref.length = ns.length
  fs : FS st.fs fs
  fo : ∀ f ∈ st.fs, FnOK ns f
  vo : VsOK st.vs li lr
theorem QE.fx (h : QE ns fs li lr st) (f : Fx lo hi st s) : QE ns fs li lr s := ⟨h.ti.of f.vs f.fs, by rw [f.tl, h.tl], by rw [f.rl, h.rl], by rw [f.fs]; exact h.fs, by rw [f.fs]; exact h.fo, by rw [f.vs]; exact h.vo⟩
def TEC (ns : List Nd) (T R : List Int) (fs : List Fn) (li lr : Int) (n : Nat) : Prop :=
  ∀ (x lo : Int) (st : CS) (t : Int) (st' : CS), 0 ≤ lo → lo ≤ x → x < ns.length → GI ns lo x → kE (ndAt ns x).kind → QE ns fs li lr st → ckE ns n x st = .ok (t, st') → Ag T R lo x st' → TE ns T R fs li lr n x ∧ gI T x = t
theorem tec_is {b ty : Int} {u : Unit} (ih : TEC ns T R fs li lr n) (h0 : 0 ≤ lo) (h1 : lo ≤ b) (h2 : b < ns.length) (hg : GI ns lo b) (hk : kE (ndAt ns b).kind) (hq : QE ns fs li lr st) (q : isTy ns (ckE ns n) b ty st = .ok (u, st')) (ha : Ag T R lo b st') : TE ns T R fs li lr n b ∧ gI T b = ty := by
  unfold isTy at q
  obtain ⟨t, s1, e1, q⟩ := cb_inv q
  split at q
  · rename_i h
    cases q
    rw [← h]
    exact ih b lo st t _ h0 h1 h2 hg hk hq e1 ha
  · cases q
theorem tec_args (good : Good 0 ns) (ih : TEC ns T R fs li lr n) : ∀ (l : List Int) (lo : Int) (st : CS) (ts : List Int) (st' : CS), 0 ≤ lo → RowE ns lo hi l → hi < ns.length → QE ns fs li lr st → ckArgs (ckE ns n) l st = .ok (ts, st') → Ag T R lo hi st' → (∀ y ∈ l, TE ns T R fs li lr n y) ∧ l.map (gI T) = ts
  | [], lo, st, ts, st', h0, hr, hh, hq, q, ha => by cases q; exact ⟨fun y hy => (by cases hy), rfl⟩
  | y :: l, lo, st, ts, st', h0, hr, hh, hq, q, ha => by
    obtain ⟨t, s1, e1, q⟩ := cb_inv q
    obtain ⟨ts2, s2, e2, q⟩ := cb_inv q
    cases q
    have hy := hr.1 y (.head _)
    have a1 := ckE_eo good n y lo st t s1 h0 hy.1 (by omega) (hr.2.1 y rfl) hy.2.2 hq.ti hq.tl e1
    have hq1 := hq.fx a1.fx
    obtain ⟨b1, _⟩ := args_eo (ckE_eo good n) (Int.le_refl _) l (y + 1) s1 ts2 st' (by omega) hr.tail hh hq1.ti hq1.tl e2
    obtain ⟨c1, c2⟩ := tec_args good ih l (y + 1) s1 ts2 st' (by omega) hr.tail hh hq1 e2 (ha.sub (by omega) (Int.le_refl _))
    have d := ih y lo st t s1 h0 hy.1 (by omega) (hr.2.1 y rfl) hy.2.2 hq e1 (ha.back b1 h0 (by omega) hy.2.1)
    refine ⟨fun z hz => ?_, by rw [List.map_cons, c2, d.2]⟩
    rcases List.mem_cons.1 hz with rfl | h
    · exact d.1
    · exact c1 z h
theorem kE_of (h : isE ns lo hi x) : kE (ndAt ns x).kind := ⟨h.2.2.1, h.2.2.2⟩
theorem rowE_of (good : Good 0 ns) (h0 : 0 ≤ lo) (hx : lo ≤ x) (h1 : x < ns.length) (hg : GI ns lo x) (hk : (ndAt ns x).kind = 13) : RowE ns lo (x - 1) (kids ns (ndAt ns x).a) := by
  obtain ⟨l, c1, c2⟩ := (hg x hx (Int.le_refl _)).f13 hk
  obtain ⟨l', d1, d2, _⟩ := (good x (by omega) h1).2.sl (.inr (.inr hk))
  have := c1.uniq d1
  subst this
  have e : kids ns (ndAt ns x).a = l := kids_of d1 d2 fun y hy => ⟨by have := (c2 y hy).1; omega, by have := (c2 y hy).2.1; omega⟩
  rw [e]
  refine ⟨fun y hy => ⟨(c2 y hy).1, by have := (c2 y hy).2.1; omega, kE_of (c2 y hy)⟩, fun y hy => hg.sub ?_, d2⟩
  have := (c2 y (List.mem_of_head? hy)).2.1
  omega
theorem nameIx_rng {l : List ByteArray} {nm : ByteArray} (h : ¬ nameIx l nm < 0) : 0 ≤ nameIx l nm ∧ nameIx l nm < l.length := by
  unfold nameIx at h ⊢
  rcases lastN_spec l nm l.length with ⟨a, _⟩ | ⟨k, a, b, _⟩
  · omega
  · omega
theorem countSplit : ∀ (l : List Int) (f : Int → Int), l.countP (fun y => decide (f y < 2)) + l.countP (fun y => decide (2 ≤ f y)) = l.length
  | [], f => rfl
  | a :: l, f => by
    have := countSplit l f
    by_cases h : f a < 2
    · rw [List.countP_cons_of_pos (by simpa using h), List.countP_cons_of_neg (by simp; omega), List.length_cons]; omega
    · rw [List.countP_cons_of_neg (by simpa using h), List.countP_cons_of_pos (by simp; omega), List.length_cons]; omega
theorem setTy_gI {u : CS} {t' : Int} (h0 : 0 ≤ x) (hl : x < u.ty.length) (e : setTy x t u = .ok (t', st')) : t' = t ∧ gI st'.ty x = t ∧ st'.ref = u.ref := by
  cases e
  exact ⟨rfl, gI_set h0 hl, rfl⟩
theorem setTy_fx {u : CS} {t' : Int} (h0 : 0 ≤ x) (e : setTy x t u = .ok (t', st')) : Fx x x u st' := by
  cases e
  exact fx_ty (Int.le_refl _) h0
theorem vrAt_mem {vs : List Vr} {i : Int} (h0 : 0 ≤ i) (h1 : i < vs.length) : vrAt vs i ∈ vs := by
  unfold vrAt
  rw [List.getD_eq_getElem?_getD, List.getElem?_eq_getElem (by omega)]
  exact List.getElem_mem _
theorem fnAt_mem {fs : List Fn} {i : Int} (h0 : 0 ≤ i) (h1 : i < fs.length) : fnAt fs i ∈ fs := by
  unfold fnAt
  rw [List.getD_eq_getElem?_getD, List.getElem?_eq_getElem (by omega)]
  exact List.getElem_mem _
set_option maxHeartbeats 1000000 in
theorem ckE_tec (good : Good 0 ns) : ∀ n, TEC ns T R fs li lr n
  | 0 => fun x lo st t st' _ _ _ _ _ _ q _ => by cases q
  | n + 1 => fun x lo st t st' h0 h1 h2 hgi hk hq q ha => by
    have ih := ckE_tec good n
    have eo := ckE_eo good n
    have ho := hgi x h1 (Int.le_refl _)
    obtain ⟨_, hs⟩ := good x (by omega) h2
    have x0 : 0 ≤ x := by omega
    have agx := ha x h1 (Int.le_refl _)
    unfold ckE at q
    unfold TE
    generalize hnd : ndAt ns x = nd at *
    by_cases k11 : nd.kind = 11
    · rw [if_pos k11] at q
      obtain ⟨e1, e2, e3⟩ := setTy_gI x0 (by rw [hq.tl]; exact h2) q
      rw [← e1] at e2
      refine ⟨⟨fun _ => by omega, ?_, ?_, ?_, ?_, ?_, ?_, ?_⟩, agx.1.trans e2⟩ <;> intro h <;> omega
    rw [if_neg k11] at q
    by_cases k12 : nd.kind = 12
    · rw [if_pos k12] at q
      split at q
      · cases q
      · rename_i hi
        obtain ⟨r1, r2⟩ := nameIx_rng hi
        have hv := hq.vo _ (vrAt_mem r1 (by simpa [vnames] using r2))
        obtain ⟨e1, e2, e3⟩ := setTy_gI x0 (by show x < st.ty.length; rw [hq.tl]; exact h2) q
        have eT : gI T x = t := by rw [agx.1, e2, e1]
        have eR : gI R x = (vrAt st.vs (nameIx (vnames st) nd.name)).slot := by
          rw [agx.2, e3]
          exact gI_set x0 (by rw [hq.rl]; exact h2)
        refine ⟨⟨?_, fun _ => by rw [eT, eR, e1]; exact hv, ?_, ?_, ?_, ?_, ?_, ?_⟩, eT⟩ <;> intro h <;> omega
    rw [if_neg k12] at q
    by_cases k13 : nd.kind = 13
    · rw [if_pos k13] at q
      split at q
      · cases q
      · rename_i hi
        obtain ⟨r1, r2⟩ := nameIx_rng hi
        have r2 : nameIx (fnames st) nd.name < st.fs.length := by simpa [fnames] using r2
        obtain ⟨ts, s1, e1, q⟩ := cb_inv q
        have hk13 : (ndAt ns x).kind = 13 := by rw [hnd]; exact k13
        have hrow := rowE_of good h0 h1 h2 hgi hk13
        rw [hnd] at hrow
        obtain ⟨a1, a2, a3, a4⟩ := args_eo eo (Int.le_refl _) _ lo st ts s1 h0 hrow (by omega) hq.ti hq.tl e1
        have hq1 := hq.fx a1
        split at q
        · cases q
        · rename_i hcnt
          split at q
          · cases q
          · rename_i hodd
            have fx := setTy_fx x0 q
            obtain ⟨e3, e4, e5⟩ := setTy_gI x0 (by show x < s1.ty.length; rw [hq1.tl]; exact h2) q
            have fr : Fx x x s1 st' := (fx_ref (Int.le_refl _) x0).trans fx
            obtain ⟨c1, c2⟩ := tec_args good ih _ lo st ts s1 h0 hrow (by omega) hq e1 (ha.back fr h0 (by omega) (by omega))
            generalize hix : nameIx (fnames st) nd.name = ix at *
            have eT : gI T x = t := by rw [agx.1, e4, e3]
            have eR : gI R x = ix := by
              rw [agx.2, e5]
              exact gI_set x0 (by rw [hq1.rl]; exact h2)
            have fo := hq.fo _ (fnAt_mem r1 r2)
            have fq := hq.fs.eq ix
            have hlen : ts.length = (kids ns nd.a).length := a2
            have hpt : ts = ptys ns (fnAt st.fs ix) := by
              refine odd_none _ ts _ hodd hlen ?_
              unfold ptys
              rw [List.length_map]
              have := countSplit (kids ns (ndAt ns (fnAt st.fs ix).node).a) (fun q => (ndAt ns q).val)
              unfold FnOK at fo
              omega
            have ci : (cntI' T (kids ns nd.a) : Int) = (fnAt fs ix).pi := by
              unfold cntI'
              rw [cnt_map (kids ns nd.a) ts (gI T) (fun t => decide (t < 2)) c2, hpt]
              unfold ptys
              rw [List.countP_map, fq.2.2.1, ← fo.1]; rfl
            have cr : (cntR' T (kids ns nd.a) : Int) = (fnAt fs ix).pr := by
              unfold cntR'
              rw [cnt_map (kids ns nd.a) ts (gI T) (fun t => decide (2 ≤ t)) c2, hpt]
              unfold ptys
              rw [List.countP_map, fq.2.2.2, ← fo.2]; rfl
            refine ⟨⟨?_, ?_, ?_, ?_, ?_, ?_, ?_, fun _ => ⟨c1, by rw [eR]; exact r1, by rw [eR, hq.fs.len]; exact r2, by rw [eR]; exact ci, by rw [eR]; exact cr, by rw [eT, eR, fq.2.1, e3]⟩⟩, eT⟩ <;> intro h <;> omega
    rw [if_neg k13] at q
    by_cases k14 : nd.kind = 14
    · rw [if_pos k14] at q
      obtain ⟨t1, s1, e1, q⟩ := cb_inv q
      obtain ⟨i1, i2⟩ := ho.f14 k14
      obtain ⟨g1, g2⟩ := hs.s2 (.inl k14)
      have l1 := i1.1; have l2 := i1.2.1; have l3 := i2.2.1
      have a1 := eo nd.a lo st t1 s1 h0 i1.1 (by omega) (hgi.sub (by omega)) i1.2.2 hq.ti hq.tl e1
      have hq1 := hq.fx a1.fx
      split at q
      · cases q
      · rename_i ht2
        obtain ⟨_, s2, e2, q⟩ := cb_inv q
        have a2 := is_eo eo (lo := nd.a + 1) (by omega) (by omega) (by omega) g2 i2.2.2 hq1.ti hq1.tl e2
        have hq2 := hq1.fx a2.fx
        have fx := setTy_fx x0 q
        obtain ⟨e3, e4, e5⟩ := setTy_gI x0 (by rw [hq2.tl]; exact h2) q
        have c1 := ih nd.a lo st t1 s1 h0 i1.1 (by omega) (hgi.sub (by omega)) i1.2.2 hq e1 ((ha.back fx h0 (by omega) (Int.le_of_lt i2.2.1)).back a2.fx h0 (by omega) (by omega))
        have c2 := tec_is ih (lo := nd.a + 1) (by omega) (by omega) (by omega) g2 i2.2.2 hq1 e2 ((ha.sub (lo' := nd.a + 1) (by omega) (Int.le_refl _)).back fx (by omega) (by omega) (by omega))
        have eT : gI T x = t := by rw [agx.1, e4, e3]
        refine ⟨⟨?_, ?_, ?_, ?_, fun _ => ⟨c1.1, c2.1, by rw [c1.2]; omega, by rw [c2.2]; omega⟩, ?_, ?_, ?_⟩, eT⟩ <;> intro h <;> omega
    rw [if_neg k14] at q
    by_cases k15 : nd.kind = 15
    · rw [if_pos k15] at q
      split at q
      · cases q
      · rename_i hv
        obtain ⟨_, s2, e2, q⟩ := cb_inv q
        obtain ⟨i1, i2⟩ := ho.f15 k15
        have l1 := i1.1; have l2 := i1.2.1
        have a2 := is_eo eo h0 i1.1 (by omega) (hgi.sub (by omega)) i1.2.2 hq.ti hq.tl e2
        have hq2 := hq.fx a2.fx
        have fx := setTy_fx x0 q
        obtain ⟨e3, e4, e5⟩ := setTy_gI x0 (by rw [hq2.tl]; exact h2) q
        have c2 := tec_is ih h0 i1.1 (by omega) (hgi.sub (by omega)) i1.2.2 hq e2 (ha.back fx h0 (by omega) (by omega))
        have eT : gI T x = t := by rw [agx.1, e4, e3]
        refine ⟨⟨?_, ?_, ?_, ?_, ?_, fun _ => ⟨c2.1, by rw [c2.2]; omega, by omega, by omega⟩, ?_, ?_⟩, eT⟩ <;> intro h <;> omega
    rw [if_neg k15] at q
    by_cases k16 : nd.kind = 16
    · rw [if_pos k16] at q
      obtain ⟨t1, s1, e1, q⟩ := cb_inv q
      have i1 := ho.f16 k16
      have l1 := i1.1; have l2 := i1.2.1
      have a1 := eo nd.a lo st t1 s1 h0 i1.1 (by omega) (hgi.sub (by omega)) i1.2.2 hq.ti hq.tl e1
      have hq1 := hq.fx a1.fx
      split at q
      · cases q
      · rename_i ht2
        have fx := setTy_fx x0 q
        obtain ⟨e3, e4, e5⟩ := setTy_gI x0 (by rw [hq1.tl]; exact h2) q
        have c1 := ih nd.a lo st t1 s1 h0 i1.1 (by omega) (hgi.sub (by omega)) i1.2.2 hq e1 (ha.back fx h0 (by omega) (by omega))
        have eT : gI T x = t := by rw [agx.1, e4, e3]
        refine ⟨⟨?_, ?_, ?_, ?_, ?_, ?_, fun _ => ⟨c1.1, by rw [c1.2]; omega, by omega⟩, ?_⟩, eT⟩ <;> intro h <;> omega
    rw [if_neg k16] at q
    by_cases k19 : nd.kind = 19
    · rw [if_pos k19] at q
      obtain ⟨_, s2, e2, q⟩ := cb_inv q
      obtain ⟨i1, i2⟩ := ho.f19 k19
      have l1 := i1.1; have l2 := i1.2.1
      have a2 := is_eo eo h0 i1.1 (by omega) (hgi.sub (by omega)) i1.2.2 hq.ti hq.tl e2
      have hq2 := hq.fx a2.fx
      have fx := setTy_fx x0 q
      obtain ⟨e3, e4, e5⟩ := setTy_gI x0 (by rw [hq2.tl]; exact h2) q
      have c2 := tec_is ih h0 i1.1 (by omega) (hgi.sub (by omega)) i1.2.2 hq e2 (ha.back fx h0 (by omega) (by omega))
      have eT : gI T x = t := by rw [agx.1, e4, e3]
      have hsm : (if nd.val = 39 then (1 : Int) else 0) < 2 := by split <;> omega
      refine ⟨⟨?_, ?_, fun _ => ⟨c2.1, by rw [c2.2]; exact hsm, by rw [eT, e3]; exact hsm⟩, ?_, ?_, ?_, ?_, ?_⟩, eT⟩ <;> intro h <;> omega
    rw [if_neg k19] at q
    by_cases k18 : nd.kind = 18
    · rw [if_pos k18] at q
      obtain ⟨i1, i2, i3⟩ := ho.f18 k18
      obtain ⟨g1, g2⟩ := hs.s2 (.inr (.inl k18))
      have l1 := i1.1; have l2 := i1.2.1; have l3 := i2.2.1
      have fin : ∀ {ta tb tx : Int} {s1 s2 : CS} {u1 u2 : Unit}, isTy ns (ckE ns n) nd.a ta st = .ok (u1, s1) → isTy ns (ckE ns n) nd.b tb s1 = .ok (u2, s2) → setTy x tx s2 = .ok (t, st') → ta < 2 → tb < 2 → tx < 2 →
          TE ns T R fs li lr n nd.a ∧ TE ns T R fs li lr n nd.b ∧ gI T nd.a < 2 ∧ gI T nd.b < 2 ∧ gI T x < 2 ∧ gI T x = t := by
        intro ta tb tx s1 s2 u1 u2 e1 e2 q h1' h2' h3'
        have a1 := is_eo eo h0 i1.1 (by omega) (hgi.sub (by omega)) i1.2.2 hq.ti hq.tl e1
        have hq1 := hq.fx a1.fx
        have a2 := is_eo eo (lo := nd.a + 1) (by omega) (by omega) (by omega) g2 i2.2.2 hq1.ti hq1.tl e2
        have hq2 := hq1.fx a2.fx
        have fx := setTy_fx x0 q
        obtain ⟨e3, e4, e5⟩ := setTy_gI x0 (by rw [hq2.tl]; exact h2) q
        have c1 := tec_is ih h0 i1.1 (by omega) (hgi.sub (by omega)) i1.2.2 hq e1 ((ha.back fx h0 (by omega) (Int.le_of_lt i2.2.1)).back a2.fx h0 (by omega) (by omega))
        have c2 := tec_is ih (lo := nd.a + 1) (by omega) (by omega) (by omega) g2 i2.2.2 hq1 e2 ((ha.sub (lo' := nd.a + 1) (by omega) (Int.le_refl _)).back fx (by omega) (by omega) (by omega))
        exact ⟨c1.1, c2.1, by omega, by omega, by omega, by omega⟩
      have out : (TE ns T R fs li lr n nd.a ∧ TE ns T R fs li lr n nd.b ∧ gI T nd.a < 2 ∧ gI T nd.b < 2 ∧ gI T x < 2 ∧ gI T x = t) → ((nd.kind = 10 ∨ nd.kind = 11 ∨ nd.kind = 17 → gI T x < 2) ∧ (nd.kind = 12 → slotOK li lr (gI T x) (gI R x)) ∧ (nd.kind = 19 → TE ns T R fs li lr n nd.a ∧ gI T nd.a < 2 ∧ gI T x < 2) ∧
          (nd.kind = 18 → TE ns T R fs li lr n nd.a ∧ TE ns T R fs li lr n nd.b ∧ gI T nd.a < 2 ∧ gI T nd.b < 2 ∧ gI T x < 2) ∧ (nd.kind = 14 → TE ns T R fs li lr n nd.a ∧ TE ns T R fs li lr n nd.b ∧ 2 ≤ gI T nd.a ∧ gI T nd.b < 2) ∧ (nd.kind = 15 → TE ns T R fs li lr n nd.a ∧ gI T nd.a < 2 ∧ 2 ≤ gI T x ∧ 2 ≤ nd.val) ∧ (nd.kind = 16 → TE ns T R fs li lr n nd.a ∧ 2 ≤ gI T nd.a ∧ gI T x < 2) ∧
          (nd.kind = 13 → (∀ y ∈ kids ns nd.a, TE ns T R fs li lr n y) ∧ 0 ≤ gI R x ∧ gI R x < fs.length ∧ (cntI' T (kids ns nd.a) : Int) = (fnAt fs (gI R x)).pi ∧ (cntR' T (kids ns nd.a) : Int) = (fnAt fs (gI R x)).pr ∧ gI T x = (fnAt fs (gI R x)).ret)) ∧ gI T x = t := by
        rintro ⟨c1, c2, c3, c4, c5, c6⟩
        refine ⟨⟨?_, ?_, ?_, fun _ => ⟨c1, c2, c3, c4, c5⟩, ?_, ?_, ?_, ?_⟩, c6⟩ <;> intro h <;> omega
      apply out
      split at q
      · obtain ⟨_, s1, e1, q⟩ := cb_inv q
        obtain ⟨_, s2, e2, q⟩ := cb_inv q
        exact fin e1 e2 q (by omega) (by omega) (by omega)
      · split at q
        · obtain ⟨t1, s1, e1, q⟩ := cb_inv q
          split at q
          · cases q
          · rename_i ht
            obtain ⟨_, s2, e2, q⟩ := cb_inv q
            have e1' : isTy ns (ckE ns n) nd.a t1 st = .ok ((), s1) := by unfold isTy; rw [e1]; simp
            exact fin e1' e2 q (by omega) (by omega) (by omega)
        · obtain ⟨_, s1, e1, q⟩ := cb_inv q
          obtain ⟨_, s2, e2, q⟩ := cb_inv q
          exact fin e1 e2 q (by omega) (by omega) (by split <;> omega)
    rw [if_neg k18] at q
    obtain ⟨e1, e2, e3⟩ := setTy_gI x0 (by rw [hq.tl]; exact h2) q
    rw [← e1] at e2
    have kk := hk
    unfold kE at kk
    refine ⟨⟨fun _ => by omega, ?_, ?_, ?_, ?_, ?_, ?_, ?_⟩, agx.1.trans e2⟩ <;> intro h <;> omega
end Go.Proofs.Qxb6500562aGreat
