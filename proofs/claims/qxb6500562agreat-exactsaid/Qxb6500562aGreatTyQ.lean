/-
  What the checker's marks say of an accepted program: statements.
-/
import Derived.Test.Qxb6500562aGreatTyP
namespace Go.Proofs.Qxb6500562aGreat
open Go.Den Go.Zip
set_option linter.unusedVariables false
set_option linter.unusedSimpArgs false
variable {ns : List Nd} {st st' s : CS} {x lo hi t : Int} {n : Nat} {T R : List Int} {fs : List Fn} {li lr ret : Int}

section
variable (ns : List Nd) (T R : List Int) (fs : List Fn) (li lr ret : Int)
def TX (x : Int) : Prop := TE ns T R fs li lr ns.length x
def TS : Nat → Int → Prop
  | 0, _ => False
  | n + 1, x =>
    ((ndAt ns x).kind = 3 → TX ns T R fs li lr (ndAt ns x).a ∧ gI T (ndAt ns x).a = (ndAt ns x).val ∧ slotOK li lr (ndAt ns x).val (gI R x)) ∧
    ((ndAt ns x).kind = 4 → TX ns T R fs li lr (ndAt ns x).b ∧ ((ndAt ns (ndAt ns x).a).kind = 12 → slotOK li lr (gI T (ndAt ns x).a) (gI R (ndAt ns x).a) ∧ gI T (ndAt ns x).b = gI T (ndAt ns x).a) ∧
      ((ndAt ns (ndAt ns x).a).kind = 14 → TX ns T R fs li lr (ndAt ns (ndAt ns x).a).a ∧ TX ns T R fs li lr (ndAt ns (ndAt ns x).a).b ∧ 2 ≤ gI T (ndAt ns (ndAt ns x).a).a ∧ gI T (ndAt ns (ndAt ns x).a).b < 2)) ∧
    ((ndAt ns x).kind = 5 → TX ns T R fs li lr (ndAt ns x).a ∧ gI T (ndAt ns x).a < 2 ∧ (∀ y ∈ kids ns (ndAt ns (ndAt ns x).b).a, TS n y) ∧ (0 ≤ (ndAt ns x).c → ∀ y ∈ kids ns (ndAt ns (ndAt ns x).c).a, TS n y)) ∧
    ((ndAt ns x).kind = 6 → TX ns T R fs li lr (ndAt ns x).a ∧ gI T (ndAt ns x).a < 2 ∧ ∀ y ∈ kids ns (ndAt ns (ndAt ns x).b).a, TS n y) ∧
    ((ndAt ns x).kind = 7 → TX ns T R fs li lr (ndAt ns x).a ∧ gI T (ndAt ns x).a = ret) ∧
    ((ndAt ns x).kind = 8 → TX ns T R fs li lr (ndAt ns x).a ∧ gI T (ndAt ns x).a < 2) ∧
    ((ndAt ns x).kind = 9 → TX ns T R fs li lr (ndAt ns x).a)
end
/-- Only the marks of the nodes lo .. hi have changed; the functions' locals have grown. -/
structure FxS (lo hi : Int) (st st' : CS) : Prop where
  fs : FS st.fs st'.fs
  cur : st'.cur = st.cur
  te : ∀ i : Nat, (i : Int) < lo ∨ hi < i → st'.ty[i]? = st.ty[i]?
  re : ∀ i : Nat, (i : Int) < lo ∨ hi < i → st'.ref[i]? = st.ref[i]?
theorem Fx.toS (h : Fx lo hi st st') : FxS lo hi st st' := ⟨by rw [h.fs]; exact FS.refl _, h.cur, h.te, h.re⟩
theorem FxS.refl (lo hi : Int) (st : CS) : FxS lo hi st st := (Fx.refl lo hi st).toS
theorem FxS.trans (h : FxS lo hi st s) (h' : FxS lo hi s st') : FxS lo hi st st' := ⟨h.fs.trans h'.fs, h'.cur.trans h.cur, fun i hi => (h'.te i hi).trans (h.te i hi), fun i hi => (h'.re i hi).trans (h.re i hi)⟩
theorem FxS.wide {lo' hi' : Int} (h : FxS lo hi st st') (h1 : lo' ≤ lo) (h2 : hi ≤ hi') : FxS lo' hi' st st' := ⟨h.fs, h.cur, fun i hi => h.te i (by omega), fun i hi => h.re i (by omega)⟩
theorem Ag.backS {lo2 hi2 hi' : Int} (h : Ag T R lo hi st') (f : FxS lo2 hi2 s st') (h0 : 0 ≤ lo) (h1 : hi' < lo2) (h2 : hi' ≤ hi) : Ag T R lo hi' s := fun y y1 y2 => by
  obtain ⟨a, b⟩ := h y y1 (by omega)
  exact ⟨a.trans (gI_congr (f.te y.toNat (.inl (by omega)))), b.trans (gI_congr (f.re y.toNat (.inl (by omega))))⟩
/-- A state between statements. -/
structure QS (ns : List Nd) (st : CS) : Prop where
  ti : TyInv st
  tl : st.ty.length = ns.length
  rl : st.ref.length = ns.length
  fo : ∀ f ∈ st.fs, FnOK ns f
  cu : st.cur < st.fs.length
  vo : VsOK st.vs (fnAt st.fs st.cur).li (fnAt st.fs st.cur).lr
theorem slotOK.mono {li' lr' ty r : Int} (h : slotOK li lr ty r) (h1 : li ≤ li') (h2 : lr ≤ lr') : slotOK li' lr' ty r := by
  refine ⟨h.1, ?_⟩
  have := h.2
  split at this
  · rename_i e; rw [if_pos e]; omega
  · rename_i e; rw [if_neg e]; omega
theorem QS.qe (h : QS ns st) (f : FS st.fs fs) : QE ns fs (fnAt fs st.cur).li (fnAt fs st.cur).lr st :=
  ⟨h.ti, h.tl, h.rl, f, h.fo, fun v hv => (h.vo v hv).mono (f.mo _).1 (f.mo _).2⟩
theorem QS.fx (h : QS ns st) (f : Fx lo hi st s) : QS ns s :=
  ⟨h.ti.of f.vs f.fs, by rw [f.tl, h.tl], by rw [f.rl, h.rl], by rw [f.fs]; exact h.fo, by rw [f.fs, f.cur]; exact h.cu, by rw [f.vs, f.fs, f.cur]; exact h.vo⟩
theorem fnAt_mod (fs : List Fn) (c : Nat) (g : Fn → Fn) (i : Int) : fnAt (fs.modify c g) i = if i.toNat = c ∧ c < fs.length then g (fnAt fs i) else fnAt fs i := by
  unfold fnAt
  rw [List.getD_eq_getElem?_getD, List.getElem?_modify, List.getD_eq_getElem?_getD]
  by_cases h : c = i.toNat
  · subst h
    by_cases h2 : i.toNat < fs.length
    · rw [if_pos ⟨rfl, h2⟩, List.getElem?_eq_getElem h2]; simp
    · rw [if_neg (by omega), List.getElem?_eq_none (by omega)]; rfl
  · rw [if_neg (by omega)]
    cases fs[i.toNat]? with
    | none => rfl
    | some f0 => show (if c = i.toNat then g f0 else f0) = f0; rw [if_neg h]
theorem fs_bump (fs : List Fn) (c : Nat) (ty : Int) (k : Nat) : FS fs (fs.modify c (bump ty k)) := by
  refine ⟨by simp, fun i => ?_, fun i => ?_⟩
  · rw [fnAt_mod]
    split
    · unfold bump; split <;> exact ⟨rfl, rfl, rfl, rfl⟩
    · exact ⟨rfl, rfl, rfl, rfl⟩
  · rw [fnAt_mod]
    split
    · unfold bump
      split
      · refine ⟨Int.le_refl _, ?_⟩
        dsimp only
        split <;> omega
      · refine ⟨?_, Int.le_refl _⟩
        dsimp only
        split <;> omega
    · exact ⟨Int.le_refl _, Int.le_refl _⟩
theorem FnOK.of {f f' : Fn} (h : FnOK ns f) (h1 : f'.node = f.node) (h2 : f'.pi = f.pi) (h3 : f'.pr = f.pr) : FnOK ns f' := by
  unfold FnOK at *; rw [h1, h2, h3]; exact h
theorem decl_fx (h0 : 0 ≤ x) : FxS x x st (decl ns x st) := ⟨fs_bump _ _ _ _, rfl, fun i hi => rfl, fun i hi => by show (st.ref.set x.toNat _)[i]? = _; rw [List.getElem?_set_ne (by omega)]⟩
theorem decl_qs (h : QS ns st) (ht : tyOK (ndAt ns x).val) : QS ns (decl ns x st) ∧ slotOK (fnAt (decl ns x st).fs st.cur).li (fnAt (decl ns x st).fs st.cur).lr (ndAt ns x).val (slotOf ns x st) := by
  have fb := fs_bump st.fs st.cur (ndAt ns x).val (slotOf ns x st + 1)
  have ef : (decl ns x st).fs = st.fs.modify st.cur (bump (ndAt ns x).val (slotOf ns x st + 1)) := rfl
  have hs : slotOK (fnAt (decl ns x st).fs st.cur).li (fnAt (decl ns x st).fs st.cur).lr (ndAt ns x).val (slotOf ns x st) := by
    rw [ef, fnAt_mod, if_pos ⟨by simp, h.cu⟩]
    refine ⟨by omega, ?_⟩
    unfold bump
    split
    · dsimp only; split <;> omega
    · dsimp only; split <;> omega
  refine ⟨⟨⟨fun v hv => ?_, fun f hf => ?_⟩, h.tl, by show (st.ref.set _ _).length = _; rw [List.length_set]; exact h.rl, fun f hf => ?_, by show st.cur < _; rw [ef, fb.len]; exact h.cu, fun v hv => ?_⟩, hs⟩
  · rcases List.mem_append.1 hv with h' | h'
    · exact h.ti.vs v h'
    · simp only [List.mem_singleton] at h'; subst h'; exact ht
  · rw [ef, List.mem_iff_getElem?] at hf
    obtain ⟨i, hi⟩ := hf
    rw [List.getElem?_modify] at hi
    cases e : st.fs[i]? with
    | none => rw [e] at hi; cases hi
    | some f0 =>
      rw [e] at hi
      have := h.ti.fs f0 (List.mem_of_getElem? e)
      have hi : (if st.cur = i then bump (ndAt ns x).val (slotOf ns x st + 1) f0 else f0) = f := Option.some.inj hi
      rw [← hi]
      split
      · unfold bump; split <;> exact this
      · exact this
  · rw [ef, List.mem_iff_getElem?] at hf
    obtain ⟨i, hi⟩ := hf
    rw [List.getElem?_modify] at hi
    cases e : st.fs[i]? with
    | none => rw [e] at hi; cases hi
    | some f0 =>
      rw [e] at hi
      have := h.fo f0 (List.mem_of_getElem? e)
      have hi : (if st.cur = i then bump (ndAt ns x).val (slotOf ns x st + 1) f0 else f0) = f := Option.some.inj hi
      rw [← hi]
      split
      · unfold bump; split <;> exact this.of rfl rfl rfl
      · exact this
  · rcases List.mem_append.1 hv with h' | h'
    · exact (h.vo v h').mono (fb.mo _).1 (fb.mo _).2
    · simp only [List.mem_singleton] at h'; subst h'; exact hs
/-- A row of statements within lo .. hi. -/
def RowT (ns : List Nd) (lo hi : Int) (l : List Int) : Prop := (∀ y ∈ l, lo ≤ y ∧ y ≤ hi ∧ kSt (ndAt ns y).kind) ∧ (∀ y, l.head? = some y → GI ns lo y) ∧ Segs ns l
theorem RowT.tail {y : Int} {l : List Int} (h : RowT ns lo hi (y :: l)) : RowT ns (y + 1) hi l := by
  have hp := List.pairwise_cons.1 h.2.2.inc
  refine ⟨fun z hz => ⟨by have := hp.1 z hz; omega, (h.1 z (.tail _ hz)).2⟩, fun z hz => ?_, h.2.2.2⟩
  cases l with
  | nil => cases hz
  | cons q l => cases hz; exact h.2.2.1.2
theorem rowT_of (good : Good 0 ns) (h0 : 0 ≤ lo) (hx : lo ≤ x) (h1 : x < ns.length) (hg : GI ns lo x) (hk : (ndAt ns x).kind = 2) : RowT ns lo (x - 1) (kids ns (ndAt ns x).a) := by
  obtain ⟨l, c1, c2⟩ := (hg x hx (Int.le_refl _)).f2 hk
  obtain ⟨l', d1, d2, _⟩ := (good x (by omega) h1).2.sl (.inr (.inl hk))
  have := c1.uniq d1
  subst this
  have e : kids ns (ndAt ns x).a = l := kids_of d1 d2 fun y hy => ⟨by have := (c2 y hy).1; omega, by have := (c2 y hy).2.1; omega⟩
  rw [e]
  refine ⟨fun y hy => ⟨(c2 y hy).1, by have := (c2 y hy).2.1; omega, (c2 y hy).2.2⟩, fun y hy => hg.sub ?_, d2⟩
  have := (c2 y (List.mem_of_head? hy)).2.1
  omega
/-- What the check of a statement leaves. -/
def TSC (ns : List Nd) (n : Nat) : Prop :=
  ∀ (x lo : Int) (st : CS) (u : Unit) (st' : CS), 0 ≤ lo → lo ≤ x → x < ns.length → GI ns lo x → kSt (ndAt ns x).kind → QS ns st → ckS ns n x st = .ok (u, st') → FxS lo x st st' ∧ QS ns st' ∧
    ∀ T R fs, FS st'.fs fs → Ag T R lo x st' → TS ns T R fs (fnAt fs st.cur).li (fnAt fs st.cur).lr (fnAt fs st.cur).ret n x
theorem tsc_row (ih : TSC ns n) : ∀ (l : List Int) (lo : Int) (st : CS) (u : Unit) (st' : CS), 0 ≤ lo → RowT ns lo hi l → hi < ns.length → QS ns st → ckL (ckS ns n) l st = .ok (u, st') → FxS lo hi st st' ∧ QS ns st' ∧
    ∀ T R fs, FS st'.fs fs → Ag T R lo hi st' → ∀ y ∈ l, TS ns T R fs (fnAt fs st.cur).li (fnAt fs st.cur).lr (fnAt fs st.cur).ret n y
  | [], lo, st, u, st', h0, hr, hh, hq, q => by cases q; exact ⟨FxS.refl _ _ _, hq, fun T R fs _ _ y hy => (by cases hy)⟩
  | y :: l, lo, st, u, st', h0, hr, hh, hq, q => by
    obtain ⟨u1, s1, e1, q⟩ := cb_inv q
    have hy := hr.1 y (.head _)
    obtain ⟨a1, a2, a3⟩ := ih y lo st u1 s1 h0 hy.1 (by omega) (hr.2.1 y rfl) hy.2.2 hq e1
    obtain ⟨b1, b2, b3⟩ := tsc_row ih l (y + 1) s1 u st' (by omega) hr.tail hh a2 q
    refine ⟨(a1.wide (Int.le_refl _) hy.2.1).trans (b1.wide (by omega) (Int.le_refl _)), b2, fun T R fs hf ha z hz => ?_⟩
    rcases List.mem_cons.1 hz with rfl | h
    · exact a3 T R fs (b1.fs.trans hf) (ha.backS b1 h0 (by omega) hy.2.1)
    · have := b3 T R fs hf (ha.sub (by omega) (Int.le_refl _)) z h
      rw [a1.cur] at this
      exact this
theorem tsc_blk {b : Int} {u : Unit} (good : Good 0 ns) (ih : TSC ns n) (h0 : 0 ≤ lo) (h1 : lo ≤ b) (h2 : b < ns.length) (hg : GI ns lo b) (hk : (ndAt ns b).kind = 2) (hq : QS ns st) (q : ckB ns (ckS ns n) b st = .ok (u, st')) : FxS lo b st st' ∧ QS ns st' ∧
    ∀ T R fs, FS st'.fs fs → Ag T R lo b st' → ∀ y ∈ kids ns (ndAt ns b).a, TS ns T R fs (fnAt fs st.cur).li (fnAt fs st.cur).lr (fnAt fs st.cur).ret n y := by
  unfold ckB at q
  obtain ⟨u1, s1, e1, q⟩ := cb_inv q
  have hr := rowT_of good h0 h1 h2 hg hk
  have hq0 : QS ns { st with lev := st.lev + 1 } := ⟨⟨hq.ti.vs, hq.ti.fs⟩, hq.tl, hq.rl, hq.fo, hq.cu, hq.vo⟩
  obtain ⟨a1, a2, a3⟩ := tsc_row ih _ lo _ u1 s1 h0 hr (by omega) hq0 e1
  cases q
  have a1 := a1.wide (lo' := lo) (hi' := b) (Int.le_refl _) (by omega)
  refine ⟨⟨a1.fs, a1.cur, a1.te, a1.re⟩, ⟨⟨fun v hv => a2.ti.vs v (List.mem_of_mem_take hv), a2.ti.fs⟩, a2.tl, a2.rl, a2.fo, a2.cu, fun v hv => a2.vo v (List.mem_of_mem_take hv)⟩, fun T R fs hf ha => a3 T R fs hf (fun y y1 y2 => ha y y1 (by omega))⟩
theorem len_pos (h0 : 0 ≤ x) (h1 : x < ns.length) : ∃ k, ns.length = k + 1 := ⟨ns.length - 1, by omega⟩
set_option maxHeartbeats 1000000 in
theorem ckS_tsc (good : Good 0 ns) : ∀ n, TSC ns n
  | 0 => fun x lo st u st' _ _ _ _ _ _ q => by cases q
  | n + 1 => fun x lo st u st' h0 h1 h2 hgi hk hq q => by
    have ih := ckS_tsc good n
    have eo := ckE_eo good ns.length
    have ho := hgi x h1 (Int.le_refl _)
    obtain ⟨_, hs⟩ := good x (by omega) h2
    have x0 : 0 ≤ x := by omega
    unfold ckS at q
    generalize hnd : ndAt ns x = nd at *
    unfold kSt at hk
    by_cases k3 : nd.kind = 3
    · rw [if_pos k3] at q
      obtain ⟨_, s0, e0, q0⟩ := cb_inv q
      have es := mayD_st e0
      rw [es] at q0
      obtain ⟨_, s1, e1, q1⟩ := cb_inv q0
      clear q q0 e0 es s0
      cases q1
      obtain ⟨i1, i2⟩ := ho.f3 k3
      have l1 := i1.1; have l2 := i1.2.1
      have a1 := is_eo eo h0 i1.1 (by omega) (hgi.sub (by omega)) i1.2.2 hq.ti hq.tl e1
      have hq1 := hq.fx a1.fx
      obtain ⟨d1, d2⟩ := decl_qs (x := x) hq1 (by rw [hnd]; exact i2)
      have dx : FxS x x s1 (decl ns x s1) := decl_fx x0
      refine ⟨(a1.fx.toS.wide (Int.le_refl _) (by omega)).trans (dx.wide (by omega) (Int.le_refl _)), d1, fun T R fs hf ha => ?_⟩
      have hf1 : FS s1.fs fs := dx.fs.trans hf
      have hf0 : FS st.fs fs := a1.fx.toS.fs.trans hf1
      have c1 := tec_is (ckE_tec (T := T) (R := R) (fs := fs) good ns.length) h0 i1.1 (by omega) (hgi.sub (by omega)) i1.2.2 (hq.qe hf0) e1 (ha.backS dx h0 (by omega) (by omega))
      have eR : gI R x = slotOf ns x s1 := by
        rw [(ha x h1 (Int.le_refl _)).2]
        exact gI_set x0 (by rw [hq1.rl]; exact h2)
      unfold TS
      rw [hnd]
      rw [hnd] at d2
      have hm := hf.mo s1.cur
      rw [a1.fx.cur] at hm d2
      refine ⟨fun _ => ⟨c1.1, c1.2, by rw [eR]; exact d2.mono hm.1 hm.2⟩, ?_, ?_, ?_, ?_, ?_, ?_⟩ <;> intro h <;> omega
    rw [if_neg k3] at q
    by_cases k4 : nd.kind = 4
    · rw [if_pos k4] at q
      obtain ⟨t1, s1, e1, q⟩ := cb_inv q
      obtain ⟨i1, i2, i3⟩ := ho.f4 k4
      obtain ⟨g1, g2⟩ := hs.s2 (.inr (.inr (.inl k4)))
      have l1 := i1.1; have l2 := i1.2.1; have l3 := i3.2.1
      have a1 := eo nd.a lo st t1 s1 h0 i1.1 (by omega) (hgi.sub (by omega)) i1.2.2 hq.ti hq.tl e1
      have hq1 := hq.fx a1.fx
      have a2 := is_eo eo (lo := nd.a + 1) (by omega) (by omega) (by omega) g2 i3.2.2 hq1.ti hq1.tl q
      have hq2 := hq1.fx a2.fx
      refine ⟨(a1.fx.toS.wide (Int.le_refl _) (by omega)).trans (a2.fx.toS.wide (by omega) (by omega)), hq2, fun T R fs hf ha => ?_⟩
      have hf1 : FS s1.fs fs := a2.fx.toS.fs.trans hf
      have hf0 : FS st.fs fs := a1.fx.toS.fs.trans hf1
      have c1 := ckE_tec (T := T) (R := R) (fs := fs) good ns.length nd.a lo st t1 s1 h0 i1.1 (by omega) (hgi.sub (by omega)) i1.2.2 (hq.qe hf0) e1 ((ha.back a2.fx h0 (by omega) (by omega)))
      have qe1 := hq1.qe hf1
      rw [a1.fx.cur] at qe1
      have c2 := tec_is (ckE_tec (T := T) (R := R) (fs := fs) good ns.length) (lo := nd.a + 1) (by omega) (by omega) (by omega) g2 i3.2.2 qe1 q (fun y y1 y2 => ha y (by omega) (by omega))
      obtain ⟨k, hkk⟩ := len_pos x0 h2
      unfold TS
      rw [hnd]
      refine ⟨?_, fun _ => ⟨c2.1, fun k12 => ?_, fun k14 => ?_⟩, ?_, ?_, ?_, ?_, ?_⟩
      · intro h; omega
      · have := c1.1
        rw [hkk] at this
        exact ⟨this.2.1 k12, by rw [c2.2, c1.2]⟩
      · have := c1.1
        rw [hkk] at this
        obtain ⟨z1, z2, z3, z4⟩ := this.2.2.2.2.1 k14
        exact ⟨z1.mono (by omega), z2.mono (by omega), z3, z4⟩
      all_goals intro h; omega
    rw [if_neg k4] at q
    by_cases k5 : nd.kind = 5
    · rw [if_pos k5] at q
      obtain ⟨_, s1, e1, q⟩ := cb_inv q
      obtain ⟨_, s2, e2, q⟩ := cb_inv q
      obtain ⟨i1, i2, i3⟩ := ho.f5 k5
      obtain ⟨g1, g2⟩ := hs.s2 (.inr (.inr (.inr (.inl k5))))
      have l1 := i1.1; have l2 := i1.2.1; have l3 := i2.2.1
      have a1 := is_eo eo h0 i1.1 (by omega) (hgi.sub (by omega)) i1.2.2 hq.ti hq.tl e1
      have hq1 := hq.fx a1.fx
      obtain ⟨b1, b2, b3⟩ := tsc_blk good ih (lo := nd.a + 1) (by omega) (by omega) (by omega) g2 i2.2.2 hq1 e2
      have main : ∀ (hfin : FxS (nd.b + 1) (x - 1) s2 st' ∧ QS ns st' ∧ ∀ T R fs, FS st'.fs fs → Ag T R (nd.b + 1) (x - 1) st' → (0 ≤ nd.c → ∀ y ∈ kids ns (ndAt ns nd.c).a, TS ns T R fs (fnAt fs st.cur).li (fnAt fs st.cur).lr (fnAt fs st.cur).ret n y)), FxS lo x st st' ∧ QS ns st' ∧ ∀ T R fs, FS st'.fs fs → Ag T R lo x st' → TS ns T R fs (fnAt fs st.cur).li (fnAt fs st.cur).lr (fnAt fs st.cur).ret (n + 1) x := by
        rintro ⟨c1, c2, c3⟩
        refine ⟨((a1.fx.toS.wide (Int.le_refl _) (by omega)).trans (b1.wide (by omega) (by omega))).trans (c1.wide (by omega) (by omega)), c2, fun T R fs hf ha => ?_⟩
        have hf2 := c1.fs.trans hf
        have hf1 := b1.fs.trans hf2
        have hf0 : FS st.fs fs := a1.fx.toS.fs.trans hf1
        have ha2 : Ag T R lo nd.b s2 := ha.backS c1 h0 (by omega) (by omega)
        have d1 := tec_is (ckE_tec (T := T) (R := R) (fs := fs) good ns.length) h0 i1.1 (by omega) (hgi.sub (by omega)) i1.2.2 (hq.qe hf0) e1 (ha2.backS b1 h0 (by omega) (by omega))
        have d2 := b3 T R fs hf2 (ha2.sub (by omega) (Int.le_refl _))
        rw [a1.fx.cur] at d2
        unfold TS
        rw [hnd]
        refine ⟨?_, ?_, fun _ => ⟨d1.1, by rw [d1.2]; omega, d2, c3 T R fs hf (fun y y1 y2 => ha y (by omega) (by omega))⟩, ?_, ?_, ?_, ?_⟩ <;> intro h <;> omega
      split at q
      · rename_i hc
        cases q
        exact main ⟨FxS.refl _ _ _, b2, fun T R fs _ _ h => absurd h (by omega)⟩
      · rename_i hc
        have i3 := i3.resolve_left (by omega)
        obtain ⟨g3, g4⟩ := hs.s5 k5 (by omega)
        have l4 := i3.2.1
        obtain ⟨c1, c2, c3⟩ := tsc_blk good ih (lo := nd.b + 1) (by omega) (by omega) (by omega) g4 i3.2.2 b2 q
        refine main ⟨c1.wide (Int.le_refl _) (by omega), c2, fun T R fs hf ha _ => ?_⟩
        have := c3 T R fs hf (ha.sub (Int.le_refl _) (by omega))
        rw [b1.cur, a1.fx.cur] at this
        exact this
    rw [if_neg k5] at q
    by_cases k6 : nd.kind = 6
    · rw [if_pos k6] at q
      obtain ⟨_, s1, e1, q⟩ := cb_inv q
      obtain ⟨i1, i2⟩ := ho.f6 k6
      obtain ⟨g1, g2⟩ := hs.s2 (.inr (.inr (.inr (.inr k6))))
      have l1 := i1.1; have l2 := i1.2.1; have l3 := i2.2.1
      have a1 := is_eo eo h0 i1.1 (by omega) (hgi.sub (by omega)) i1.2.2 hq.ti hq.tl e1
      have hq1 := hq.fx a1.fx
      obtain ⟨b1, b2, b3⟩ := tsc_blk good ih (lo := nd.a + 1) (by omega) (by omega) (by omega) g2 i2.2.2 hq1 q
      refine ⟨(a1.fx.toS.wide (Int.le_refl _) (by omega)).trans (b1.wide (by omega) (by omega)), b2, fun T R fs hf ha => ?_⟩
      have hf1 := b1.fs.trans hf
      have hf0 : FS st.fs fs := a1.fx.toS.fs.trans hf1
      have d1 := tec_is (ckE_tec (T := T) (R := R) (fs := fs) good ns.length) h0 i1.1 (by omega) (hgi.sub (by omega)) i1.2.2 (hq.qe hf0) e1 (ha.backS b1 h0 (by omega) (by omega))
      have d2 := b3 T R fs hf (fun y y1 y2 => ha y (by omega) (by omega))
      rw [a1.fx.cur] at d2
      unfold TS
      rw [hnd]
      refine ⟨?_, ?_, ?_, fun _ => ⟨d1.1, by rw [d1.2]; omega, d2⟩, ?_, ?_, ?_⟩ <;> intro h <;> omega
    rw [if_neg k6] at q
    by_cases k7 : nd.kind = 7
    · rw [if_pos k7] at q
      have i1 := ho.f7 (.inl k7)
      have l1 := i1.1; have l2 := i1.2.1
      have a1 := is_eo eo h0 i1.1 (by omega) (hgi.sub (by omega)) i1.2.2 hq.ti hq.tl q
      refine ⟨a1.fx.toS.wide (Int.le_refl _) (by omega), hq.fx a1.fx, fun T R fs hf ha => ?_⟩
      have hf0 : FS st.fs fs := a1.fx.toS.fs.trans hf
      have d1 := tec_is (ckE_tec (T := T) (R := R) (fs := fs) good ns.length) h0 i1.1 (by omega) (hgi.sub (by omega)) i1.2.2 (hq.qe hf0) q (ha.sub (Int.le_refl _) (by omega))
      unfold TS
      rw [hnd]
      refine ⟨?_, ?_, ?_, ?_, fun _ => ⟨d1.1, by rw [d1.2, (hf0.eq _).2.1]⟩, ?_, ?_⟩ <;> intro h <;> omega
    rw [if_neg k7] at q
    by_cases k8 : nd.kind = 8
    · rw [if_pos k8] at q
      have i1 := ho.f7 (.inr (.inl k8))
      have l1 := i1.1; have l2 := i1.2.1
      have a1 := is_eo eo h0 i1.1 (by omega) (hgi.sub (by omega)) i1.2.2 hq.ti hq.tl q
      refine ⟨a1.fx.toS.wide (Int.le_refl _) (by omega), hq.fx a1.fx, fun T R fs hf ha => ?_⟩
      have hf0 : FS st.fs fs := a1.fx.toS.fs.trans hf
      have d1 := tec_is (ckE_tec (T := T) (R := R) (fs := fs) good ns.length) h0 i1.1 (by omega) (hgi.sub (by omega)) i1.2.2 (hq.qe hf0) q (ha.sub (Int.le_refl _) (by omega))
      unfold TS
      rw [hnd]
      refine ⟨?_, ?_, ?_, ?_, ?_, fun _ => ⟨d1.1, by rw [d1.2]; omega⟩, ?_⟩ <;> intro h <;> omega
    rw [if_neg k8] at q
    have k9 : nd.kind = 9 := by omega
    rw [if_pos k9] at q
    obtain ⟨t1, s1, e1, q⟩ := cb_inv q
    cases q
    have i1 := ho.f7 (.inr (.inr k9))
    have l1 := i1.1; have l2 := i1.2.1
    have a1 := eo nd.a lo st t1 _ h0 i1.1 (by omega) (hgi.sub (by omega)) i1.2.2 hq.ti hq.tl e1
    refine ⟨a1.fx.toS.wide (Int.le_refl _) (by omega), hq.fx a1.fx, fun T R fs hf ha => ?_⟩
    have hf0 : FS st.fs fs := a1.fx.toS.fs.trans hf
    have d1 := ckE_tec (T := T) (R := R) (fs := fs) good ns.length nd.a lo st t1 _ h0 i1.1 (by omega) (hgi.sub (by omega)) i1.2.2 (hq.qe hf0) e1 (ha.sub (Int.le_refl _) (by omega))
    unfold TS
    rw [hnd]
    refine ⟨?_, ?_, ?_, ?_, ?_, ?_, fun _ => d1.1⟩ <;> intro h <;> omega
end Go.Proofs.Qxb6500562aGreat
