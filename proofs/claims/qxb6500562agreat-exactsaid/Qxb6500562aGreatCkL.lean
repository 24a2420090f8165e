/-
  The checker, plain: what an expression's check leaves alone.
-/
import Derived.Test.Qxb6500562aGreatCkP
namespace Go.Proofs.Qxb6500562aGreat
open Go.Den Go.Zip
set_option linter.unusedVariables false
set_option linter.unusedSimpArgs false
variable {ns : List Nd} {st st' s : CS} {x lo hi t : Int} {n : Nat}

/-- Only the marks of the nodes lo .. hi have changed. -/
structure Fx (lo hi : Int) (st st' : CS) : Prop where
  fs : st'.fs = st.fs
  vs : st'.vs = st.vs
  cur : st'.cur = st.cur
  lev : st'.lev = st.lev
  tl : st'.ty.length = st.ty.length
  rl : st'.ref.length = st.ref.length
  te : ∀ i : Nat, (i : Int) < lo ∨ hi < i → st'.ty[i]? = st.ty[i]?
  re : ∀ i : Nat, (i : Int) < lo ∨ hi < i → st'.ref[i]? = st.ref[i]?
theorem Fx.refl (lo hi : Int) (st : CS) : Fx lo hi st st := ⟨rfl, rfl, rfl, rfl, rfl, rfl, fun _ _ => rfl, fun _ _ => rfl⟩
theorem Fx.trans (h : Fx lo hi st s) (h' : Fx lo hi s st') : Fx lo hi st st' :=
  ⟨h'.fs.trans h.fs, h'.vs.trans h.vs, h'.cur.trans h.cur, h'.lev.trans h.lev, h'.tl.trans h.tl, h'.rl.trans h.rl, fun i hi => (h'.te i hi).trans (h.te i hi), fun i hi => (h'.re i hi).trans (h.re i hi)⟩
theorem Fx.wide {lo' hi' : Int} (h : Fx lo hi st st') (h1 : lo' ≤ lo) (h2 : hi ≤ hi') : Fx lo' hi' st st' :=
  ⟨h.fs, h.vs, h.cur, h.lev, h.tl, h.rl, fun i hi => h.te i (by omega), fun i hi => h.re i (by omega)⟩
theorem fx_ty (h0 : lo ≤ x) (h1 : 0 ≤ lo) : Fx lo x st { st with ty := st.ty.set x.toNat t } :=
  ⟨rfl, rfl, rfl, rfl, by simp, rfl, fun i hi => by simp only; rw [List.getElem?_set_ne (by omega)], fun _ _ => rfl⟩
theorem fx_ref (h0 : lo ≤ x) (h1 : 0 ≤ lo) : Fx lo x st (setRef x t st) :=
  ⟨rfl, rfl, rfl, rfl, rfl, by simp [setRef], fun _ _ => rfl, fun i hi => by simp only [setRef]; rw [List.getElem?_set_ne (by omega)]⟩
/-- Types are small. -/
structure TyInv (st : CS) : Prop where
  vs : ∀ v ∈ st.vs, tyOK v.ty
  fs : ∀ f ∈ st.fs, tyOK f.ret
theorem TyInv.of (h : TyInv st) (h1 : st'.vs = st.vs) (h2 : st'.fs = st.fs) : TyInv st' := ⟨by rw [h1]; exact h.vs, by rw [h2]; exact h.fs⟩
theorem TyInv.vr (h : TyInv st) (i : Int) : tyOK (vrAt st.vs i).ty := by
  unfold vrAt
  rw [List.getD_eq_getElem?_getD]
  cases e : st.vs[i.toNat]? with
  | none => exact ⟨by decide, by decide⟩
  | some v => exact h.vs v (List.mem_of_getElem? e)
theorem TyInv.fn (h : TyInv st) (i : Int) : tyOK (fnAt st.fs i).ret := by
  unfold fnAt
  rw [List.getD_eq_getElem?_getD]
  cases e : st.fs[i.toNat]? with
  | none => exact ⟨by decide, by decide⟩
  | some v => exact h.fs v (List.mem_of_getElem? e)
/-- What the check of a sound expression gives. -/
structure EO (lo x : Int) (st st' : CS) (t : Int) : Prop where
  fx : Fx lo x st st'
  ty : tyOK t
  at_ : x.toNat < st.ty.length → st'.ty[x.toNat]? = some t
theorem eo_set {u : CS} {t' : Int} (h : Fx lo x st u) (h0 : lo ≤ x) (h1 : 0 ≤ lo) (ht : tyOK t) (e : setTy x t u = .ok (t', st')) : EO lo x st st' t' := by
  unfold setTy at e
  cases e
  refine ⟨h.trans (fx_ty h0 h1), ht, fun hl => ?_⟩
  simp only
  rw [List.getElem?_set_self (by rw [h.tl]; exact hl)]
theorem GI.sub {y : Int} (h : GI ns lo hi) (hy : y ≤ hi) : GI ns lo y := fun z z1 z2 => h z z1 (by omega)
/-- A row of expressions within lo .. hi. -/
def RowE (ns : List Nd) (lo hi : Int) (l : List Int) : Prop := (∀ y ∈ l, lo ≤ y ∧ y ≤ hi ∧ kE (ndAt ns y).kind) ∧ (∀ y, l.head? = some y → GI ns lo y) ∧ Segs ns l
theorem RowE.tail {y : Int} {l : List Int} (h : RowE ns lo hi (y :: l)) : RowE ns (y + 1) hi l := by
  have hp := List.pairwise_cons.1 h.2.2.inc
  refine ⟨fun z hz => ⟨by have := hp.1 z hz; omega, (h.1 z (.tail _ hz)).2⟩, fun z hz => ?_, h.2.2.2⟩
  cases l with
  | nil => cases hz
  | cons q l => cases hz; exact h.2.2.1.2
/-- A checker of expressions keeps to its expression. -/
def KeepE (ns : List Nd) (e : Int → CS → CR Int) (b : Int) : Prop := ∀ x lo st t st', 0 ≤ lo → lo ≤ x → x < b → GI ns lo x → kE (ndAt ns x).kind → TyInv st → st.ty.length = ns.length → e x st = .ok (t, st') → EO lo x st st' t
theorem args_eo {e : Int → CS → CR Int} {b : Int} (he : KeepE ns e b) (hb : b ≤ ns.length) : ∀ (l : List Int) (lo : Int) (st : CS) (ts : List Int) (st' : CS), 0 ≤ lo → RowE ns lo hi l → hi < b → TyInv st → st.ty.length = ns.length → ckArgs e l st = .ok (ts, st') →
    Fx lo hi st st' ∧ ts.length = l.length ∧ (∀ t ∈ ts, tyOK t) ∧ ∀ i : Nat, (l[i]?.bind fun y => st'.ty[y.toNat]?) = ts[i]?
  | [], lo, st, ts, st', h0, hr, hh, ht, hl, q => by
    cases q
    exact ⟨Fx.refl _ _ _, rfl, fun t h => (by cases h), fun i => rfl⟩
  | y :: l, lo, st, ts, st', h0, hr, hh, ht, hl, q => by
    obtain ⟨t, s1, e1, q⟩ := cb_inv q
    obtain ⟨ts2, s2, e2, q⟩ := cb_inv q
    cases q
    have hy := hr.1 y (.head _)
    have a1 := he y lo st t s1 h0 hy.1 (by omega) (hr.2.1 y rfl) hy.2.2 ht hl e1
    have ht1 : TyInv s1 := ht.of a1.fx.vs a1.fx.fs
    have hl1 : s1.ty.length = ns.length := by rw [a1.fx.tl, hl]
    obtain ⟨b1, b2, b3, b4⟩ := args_eo he hb l (y + 1) s1 ts2 st' (by omega) hr.tail hh ht1 hl1 e2
    refine ⟨(a1.fx.wide (Int.le_refl _) hy.2.1).trans (b1.wide (by omega) (Int.le_refl _)), by simp [b2], fun t' ht' => ?_, fun i => ?_⟩
    · rcases List.mem_cons.1 ht' with rfl | h
      · exact a1.ty
      · exact b3 t' h
    · cases i with
      | zero =>
        simp only [List.getElem?_cons_zero, Option.bind_some]
        rw [b1.te y.toNat (by omega)]
        exact a1.at_ (by omega)
      | succ i =>
        simp only [List.getElem?_cons_succ]
        exact b4 i
theorem is_eo {e : Int → CS → CR Int} {b y ty : Int} (he : KeepE ns e b) (h0 : 0 ≤ lo) (h1 : lo ≤ y) (h2 : y < b) (hg : GI ns lo y) (hk : kE (ndAt ns y).kind) (ht : TyInv st) (hl : st.ty.length = ns.length) {u : Unit} (q : isTy ns e y ty st = .ok (u, st')) :
    EO lo y st st' ty := by
  unfold isTy at q
  obtain ⟨t, s1, e1, q⟩ := cb_inv q
  have := he y lo st t s1 h0 h1 h2 hg hk ht hl e1
  split at q
  · rename_i h
    cases q
    rw [← h]; exact this
  · cases q
theorem tyOK_of {a : Int} (h : 0 ≤ a) (h2 : a ≤ 7) : tyOK a := ⟨h, h2⟩
theorem ckE_eo (hg : Good 0 ns) : ∀ n, KeepE ns (ckE ns n) ns.length
  | 0 => fun x lo st t st' _ _ _ _ _ _ _ q => by cases q
  | n + 1 => fun x lo st t st' h0 h1 h2 hgi hk ht hl q => by
    have ih := ckE_eo hg n
    have ho := hgi x h1 (Int.le_refl _)
    obtain ⟨_, hs⟩ := hg x (by omega) h2
    have mono : ∀ {s : CS}, Fx lo x st s → TyInv s ∧ s.ty.length = ns.length := fun f => ⟨ht.of f.vs f.fs, by rw [f.tl, hl]⟩
    unfold ckE at q
    generalize hnd : ndAt ns x = nd at *
    by_cases k11 : nd.kind = 11
    · rw [if_pos k11] at q
      exact eo_set (Fx.refl _ _ _) h1 h0 (tyOK_of (by omega) (by omega)) q
    rw [if_neg k11] at q
    by_cases k12 : nd.kind = 12
    · rw [if_pos k12] at q
      split at q
      · cases q
      · exact eo_set (fx_ref h1 h0) h1 h0 (ht.vr _) q
    rw [if_neg k12] at q
    by_cases k13 : nd.kind = 13
    · rw [if_pos k13] at q
      split at q
      · cases q
      · obtain ⟨ts, s1, e1, q⟩ := cb_inv q
        obtain ⟨l, c1, c2⟩ := ho.f13 k13
        obtain ⟨l', c1', c3, _⟩ := hs.sl (.inr (.inr k13))
        have := c1.uniq c1'
        subst this
        have hkl : kids ns nd.a = l := kids_of c1 c3 fun y hy => by have := c2 y hy; have := this.1; have := (c2 y hy).2.1; omega
        rw [hkl] at e1
        have hrow : RowE ns lo (x - 1) l := by
          refine ⟨fun y hy => ?_, fun y hy => ?_, c3⟩
          · obtain ⟨q1, q2, q3⟩ := c2 y hy
            exact ⟨q1, by omega, q3⟩
          · have hm : y ∈ l := List.mem_of_head? hy
            exact hgi.sub (by have := (c2 y hm).2.1; omega)
        obtain ⟨a1, a2, a3, a4⟩ := args_eo ih (Int.le_refl _) l lo st ts s1 h0 hrow (by omega) ht hl e1
        have a1 := a1.wide (lo' := lo) (hi' := x) (by omega) (by omega)
        split at q
        · cases q
        · split at q
          · cases q
          · exact eo_set (a1.trans (fx_ref h1 h0)) h1 h0 (ht.fn _) q
    rw [if_neg k13] at q
    by_cases k14 : nd.kind = 14
    · rw [if_pos k14] at q
      obtain ⟨t1, s1, e1, q⟩ := cb_inv q
      obtain ⟨i1, i2⟩ := ho.f14 k14
      obtain ⟨g1, g2⟩ := hs.s2 (.inl k14)
      have a1 := ih nd.a lo st t1 s1 h0 i1.1 (by have := i1.2.1; omega) (hgi.sub (by have := i1.2.1; omega)) i1.2.2 ht hl e1
      split at q
      · cases q
      · rename_i ht2
        obtain ⟨_, s2, e2, q⟩ := cb_inv q
        have f1 := a1.fx.wide (lo' := lo) (hi' := x) (by omega) (by have := i1.2.1; omega)
        have a2 := is_eo ih (lo := nd.a + 1) (by have := i1.1; omega) (by omega) (by have := i2.2.1; omega) g2 i2.2.2 (mono f1).1 (mono f1).2 e2
        have f2 := a2.fx.wide (lo' := lo) (hi' := x) (by have := i1.1; omega) (by have := i2.2.1; omega)
        exact eo_set (f1.trans f2) h1 h0 (tyOK_of (by omega) (by have := a1.ty.2; omega)) q
    rw [if_neg k14] at q
    by_cases k15 : nd.kind = 15
    · rw [if_pos k15] at q
      split at q
      · cases q
      · rename_i hv
        obtain ⟨_, s2, e2, q⟩ := cb_inv q
        obtain ⟨i1, i2⟩ := ho.f15 k15
        have a2 := is_eo ih h0 i1.1 (by have := i1.2.1; omega) (hgi.sub (by have := i1.2.1; omega)) i1.2.2 ht hl e2
        exact eo_set (a2.fx.wide (by omega) (by have := i1.2.1; omega)) h1 h0 i2 q
    rw [if_neg k15] at q
    by_cases k16 : nd.kind = 16
    · rw [if_pos k16] at q
      obtain ⟨t1, s1, e1, q⟩ := cb_inv q
      have i1 := ho.f16 k16
      have a1 := ih nd.a lo st t1 s1 h0 i1.1 (by have := i1.2.1; omega) (hgi.sub (by have := i1.2.1; omega)) i1.2.2 ht hl e1
      split at q
      · cases q
      · exact eo_set (a1.fx.wide (by omega) (by have := i1.2.1; omega)) h1 h0 (tyOK_of (by omega) (by omega)) q
    rw [if_neg k16] at q
    by_cases k19 : nd.kind = 19
    · rw [if_pos k19] at q
      obtain ⟨_, s2, e2, q⟩ := cb_inv q
      obtain ⟨i1, i2⟩ := ho.f19 k19
      have a2 := is_eo ih h0 i1.1 (by have := i1.2.1; omega) (hgi.sub (by have := i1.2.1; omega)) i1.2.2 ht hl e2
      exact eo_set (a2.fx.wide (by omega) (by have := i1.2.1; omega)) h1 h0 (by split <;> exact tyOK_of (by omega) (by omega)) q
    rw [if_neg k19] at q
    by_cases k18 : nd.kind = 18
    · rw [if_pos k18] at q
      obtain ⟨i1, i2, _⟩ := ho.f18 k18
      obtain ⟨g1, g2⟩ := hs.s2 (.inr (.inl k18))
      have two : ∀ {ta tb r : Int} {q1 : CR Int}, q1 = (cb (isTy ns (ckE ns n) nd.a ta st) fun _ st => cb (isTy ns (ckE ns n) nd.b tb st) fun _ st => setTy x r st) → tyOK r → q1 = .ok (t, st') → EO lo x st st' t := by
        intro ta tb r q1 hq hr hq2
        rw [hq] at hq2
        obtain ⟨_, s1, e1, q⟩ := cb_inv hq2
        obtain ⟨_, s2, e2, q⟩ := cb_inv q
        have a1 := is_eo ih h0 i1.1 (by have := i1.2.1; omega) (hgi.sub (by have := i1.2.1; omega)) i1.2.2 ht hl e1
        have f1 := a1.fx.wide (lo' := lo) (hi' := x) (by omega) (by have := i1.2.1; omega)
        have a2 := is_eo ih (lo := nd.a + 1) (by have := i1.1; omega) (by omega) (by have := i2.2.1; omega) g2 i2.2.2 (mono f1).1 (mono f1).2 e2
        have f2 := a2.fx.wide (lo' := lo) (hi' := x) (by have := i1.1; omega) (by have := i2.2.1; omega)
        exact eo_set (f1.trans f2) h1 h0 hr q
      split at q
      · exact two rfl (tyOK_of (by omega) (by omega)) q
      split at q
      · obtain ⟨t1, s1, e1, q⟩ := cb_inv q
        have a1 := ih nd.a lo st t1 s1 h0 i1.1 (by have := i1.2.1; omega) (hgi.sub (by have := i1.2.1; omega)) i1.2.2 ht hl e1
        split at q
        · cases q
        · obtain ⟨_, s2, e2, q⟩ := cb_inv q
          have f1 := a1.fx.wide (lo' := lo) (hi' := x) (by omega) (by have := i1.2.1; omega)
          have a2 := is_eo ih (lo := nd.a + 1) (by have := i1.1; omega) (by omega) (by have := i2.2.1; omega) g2 i2.2.2 (mono f1).1 (mono f1).2 e2
          have f2 := a2.fx.wide (lo' := lo) (hi' := x) (by have := i1.1; omega) (by have := i2.2.1; omega)
          exact eo_set (f1.trans f2) h1 h0 (tyOK_of (by omega) (by omega)) q
      · exact two rfl (by split <;> exact tyOK_of (by omega) (by omega)) q
    · rw [if_neg k18] at q
      exact eo_set (Fx.refl _ _ _) h1 h0 (tyOK_of (by omega) (by omega)) q
end Go.Proofs.Qxb6500562aGreat
