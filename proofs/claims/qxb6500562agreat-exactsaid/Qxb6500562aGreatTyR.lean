/-
  What the checker's marks say of an accepted program: functions, the program.
-/
import Derived.Test.Qxb6500562aGreatTyQ
namespace Go.Proofs.Qxb6500562aGreat
open Go.Den Go.Zip
set_option linter.unusedVariables false
set_option linter.unusedSimpArgs false
variable {ns : List Nd} {st st' s : CS} {x lo hi t : Int} {n : Nat} {T R : List Int} {fs : List Fn} {li lr ret : Int}

/-- Locals are few. -/
def UB (fs : List Fn) : Prop := ∀ f ∈ fs, 0 ≤ f.li ∧ f.li ≤ 12 ∧ 0 ≤ f.lr ∧ f.lr ≤ 12
theorem ub_modify {c : Nat} {ty : Int} {k : Nat} (h : UB fs) (hk : k ≤ 12) : UB (fs.modify c (bump ty k)) := by
  intro f hf
  rw [List.mem_iff_getElem?] at hf
  obtain ⟨i, hi⟩ := hf
  rw [List.getElem?_modify] at hi
  cases e : fs[i]? with
  | none => rw [e] at hi; cases hi
  | some f0 =>
    rw [e] at hi
    have hb := h f0 (List.mem_of_getElem? e)
    have hi : (if c = i then bump ty k f0 else f0) = f := Option.some.inj hi
    rw [← hi]
    split
    · unfold bump
      split
      · refine ⟨hb.1, hb.2.1, ?_, ?_⟩ <;> dsimp only <;> split <;> omega
      · refine ⟨?_, ?_, hb.2.2.1, hb.2.2.2⟩ <;> dsimp only <;> split <;> omega
    · exact hb
theorem mayD_few {u : Unit} (h : mayD ns x st = .ok (u, st')) : slotOf ns x st < 12 := by
  unfold mayD at h
  split at h
  · cases h
  · split at h
    · cases h
    · rename_i h2
      unfold slotOf
      split <;> omega
theorem ckL_ub {f : Int → CS → CR Unit} (hf : ∀ x st u st', f x st = .ok (u, st') → UB st.fs → UB st'.fs) : ∀ (l : List Int) (st : CS) (u : Unit) (st' : CS), ckL f l st = .ok (u, st') → UB st.fs → UB st'.fs
  | [], st, u, st', h, hu => by cases h; exact hu
  | x :: l, st, u, st', h, hu => by
    obtain ⟨_, s1, e1, h⟩ := cb_inv h
    exact ckL_ub hf l _ _ _ h (hf _ _ _ _ e1 hu)
theorem ckB_ub {f : Int → CS → CR Unit} {b : Int} {u : Unit} (hf : ∀ x st u st', f x st = .ok (u, st') → UB st.fs → UB st'.fs) (h : ckB ns f b st = .ok (u, st')) (hu : UB st.fs) : UB st'.fs := by
  obtain ⟨_, s1, e1, h⟩ := cb_inv h
  cases h
  have := ckL_ub hf _ _ _ s1 e1 hu
  exact this
theorem decl_ub (h : UB st.fs) (hs : slotOf ns x st < 12) : UB (decl ns x st).fs := ub_modify h (by omega)
theorem ckS_ub : ∀ (n : Nat) (x : Int) (st : CS) (u : Unit) (st' : CS), ckS ns n x st = .ok (u, st') → UB st.fs → UB st'.fs
  | 0, x, st, u, st', h, hu => by cases h
  | n + 1, x, st, u, st', q, hu => by
    have ih := ckS_ub n
    have ke : ∀ {y : Int} {a b : CS} {t : Int}, ckE ns ns.length y a = .ok (t, b) → KpE a b := fun h => ckE_kp _ _ _ _ _ h
    have ki : ∀ {y ty : Int} {a b : CS} {u : Unit}, isTy ns (ckE ns ns.length) y ty a = .ok (u, b) → KpE a b := fun h => is_kp (ckE_kp _) h
    unfold ckS at q
    split at q
    · obtain ⟨_, s0, e0, q0⟩ := cb_inv q
      have es := mayD_st e0
      rw [es] at q0
      have hf := mayD_few e0
      obtain ⟨_, s1, e1, q1⟩ := cb_inv q0
      clear q q0 e0 es
      cases q1
      have k := ki e1
      refine decl_ub (by rw [k.fs]; exact hu) ?_
      unfold slotOf at hf ⊢
      rw [k.vs]; exact hf
    · split at q
      · obtain ⟨_, s1, e1, q⟩ := cb_inv q
        rw [(ki q).fs, (ke e1).fs]; exact hu
      · split at q
        · obtain ⟨_, s1, e1, q⟩ := cb_inv q
          obtain ⟨_, s2, e2, q⟩ := cb_inv q
          have h2 := ckB_ub ih e2 (by rw [(ki e1).fs]; exact hu)
          split at q
          · cases q; exact h2
          · exact ckB_ub ih q h2
        · split at q
          · obtain ⟨_, s1, e1, q⟩ := cb_inv q
            exact ckB_ub ih q (by rw [(ki e1).fs]; exact hu)
          · split at q
            · rw [(ki q).fs]; exact hu
            · split at q
              · rw [(ki q).fs]; exact hu
              · split at q
                · obtain ⟨_, s1, e1, q⟩ := cb_inv q
                  cases q
                  rw [(ke e1).fs]; exact hu
                · cases q; exact hu
/-- Parameters. -/
def VC (st : CS) : Prop := (cntI st.vs : Int) ≤ (fnAt st.fs st.cur).li ∧ (cntR st.vs : Int) ≤ (fnAt st.fs st.cur).lr
theorem par_row (hi : Int) : ∀ (l : List Int) (lo : Int) (st : CS) (u : Unit) (st' : CS), 0 ≤ lo → (∀ y ∈ l, lo ≤ y ∧ y ≤ hi ∧ tyOK (ndAt ns y).val) → QS ns st → VC st → UB st.fs → ckL (ckPar ns) l st = .ok (u, st') → FxS lo hi st st' ∧ QS ns st' ∧ VC st' ∧ UB st'.fs ∧
    cntI st'.vs = cntI st.vs + l.countP (fun q => decide ((ndAt ns q).val < 2)) ∧ cntR st'.vs = cntR st.vs + l.countP (fun q => decide (2 ≤ (ndAt ns q).val))
  | [], lo, st, u, st', h0, hm, hq, hv, hu, q => by cases q; exact ⟨FxS.refl _ _ _, hq, hv, hu, by simp, by simp⟩
  | y :: l, lo, st, u, st', h0, hm, hq, hv, hu, q => by
    obtain ⟨_, s1, e1, q⟩ := cb_inv q
    unfold ckPar at e1
    obtain ⟨_, s0, e0, e1⟩ := cb_inv e1
    have es := mayD_st e0
    rw [es] at e1
    have hf := mayD_few e0
    have e1 : decl ns y st = s1 := by cases e1; rfl
    have hy := hm y (.head _)
    obtain ⟨d1, d2⟩ := decl_qs (x := y) hq hy.2.2
    have dx : FxS y y st (decl ns y st) := decl_fx (by omega)
    have du := decl_ub hu hf
    have ci : cntI (decl ns y st).vs = cntI st.vs + (if (ndAt ns y).val < 2 then 1 else 0) := by
      show (st.vs ++ [_]).countP _ = _
      rw [List.countP_append]
      unfold cntI
      congr 1
      simp only [List.countP_cons, List.countP_nil, Nat.zero_add, decide_eq_true_eq]
    have cr : cntR (decl ns y st).vs = cntR st.vs + (if 2 ≤ (ndAt ns y).val then 1 else 0) := by
      show (st.vs ++ [_]).countP _ = _
      rw [List.countP_append]
      unfold cntR
      congr 1
      simp only [List.countP_cons, List.countP_nil, Nat.zero_add, decide_eq_true_eq]
    have dv : VC (decl ns y st) := by
      have ef : (decl ns y st).fs = st.fs.modify st.cur (bump (ndAt ns y).val (slotOf ns y st + 1)) := rfl
      have ec : (decl ns y st).cur = st.cur := rfl
      have eL : fnAt (decl ns y st).fs (st.cur : Int) = bump (ndAt ns y).val (slotOf ns y st + 1) (fnAt st.fs st.cur) := by
        rw [ef, fnAt_mod]; exact if_pos ⟨by simp, hq.cu⟩
      unfold VC at hv ⊢
      rw [ec, eL, ci, cr]
      unfold bump slotOf
      by_cases h2 : 2 ≤ (ndAt ns y).val
      · have h3 : ¬ (ndAt ns y).val < 2 := by omega
        simp only [if_pos h2, if_neg h3]
        refine ⟨by omega, ?_⟩
        split <;> omega
      · have h3 : (ndAt ns y).val < 2 := by omega
        simp only [if_neg h2, if_pos h3]
        refine ⟨?_, by omega⟩
        split <;> omega
    rw [e1] at d1 dx du ci cr dv
    obtain ⟨a1, a2, a3, a4, a5, a6⟩ := par_row hi l lo s1 u st' h0 (fun z hz => hm z (.tail _ hz)) d1 dv du q
    refine ⟨(dx.wide hy.1 hy.2.1).trans a1, a2, a3, a4, ?_, ?_⟩
    · rw [a5, ci, List.countP_cons]; simp only [decide_eq_true_eq]; omega
    · rw [a6, cr, List.countP_cons]; simp only [decide_eq_true_eq]; omega
/-- A function is as its marks say. -/
structure TF (ns : List Nd) (T R : List Int) (fs : List Fn) (f : Fn) : Prop where
  bd : ∀ y ∈ kids ns (ndAt ns (ndAt ns f.node).b).a, TS ns T R fs f.li f.lr f.ret ns.length y
  pi : f.pi ≤ f.li
  pr : f.pr ≤ f.lr
/-- A state between functions. -/
structure QF (ns : List Nd) (st : CS) : Prop where
  ti : TyInv st
  tl : st.ty.length = ns.length
  rl : st.ref.length = ns.length
  fo : ∀ f ∈ st.fs, FnOK ns f
  ub : UB st.fs
theorem body_tf {i : Nat} {u : Unit} (good : Good 0 ns) (h0 : 0 ≤ lo) (h1 : lo ≤ x) (h2 : x < ns.length) (hg : GI ns lo x) (hk : (ndAt ns x).kind = 0) (hq : QF ns st) (hi : i < st.fs.length) (hn : (fnAt st.fs (i : Int)).node = x) (q : ckBody ns i st = .ok (u, st')) :
    FS st.fs st'.fs ∧ (∀ j : Nat, (j : Int) < lo ∨ x < j → st'.ty[j]? = st.ty[j]? ∧ st'.ref[j]? = st.ref[j]?) ∧ QF ns st' ∧ ∀ T R fs, FS st'.fs fs → Ag T R lo x st' → TF ns T R fs (fnAt fs (i : Int)) := by
  unfold ckBody at q
  rw [hn] at q
  obtain ⟨_, s1, e1, q⟩ := cb_inv q
  have ho := hg x h1 (Int.le_refl _)
  obtain ⟨⟨l, c1, c2⟩, hb, hty⟩ := ho.f0 hk
  obtain ⟨l', d1, d2, d3⟩ := (good x (by omega) h2).2.sl (.inl hk)
  have := c1.uniq d1
  subst this
  have ek : kids ns (ndAt ns x).a = l := kids_of d1 d2 fun y hy => ⟨by have := (c2 y hy).1; omega, by have := (c2 y hy).2.1; omega⟩
  rw [ek] at e1
  have d3 := d3 hk
  have lb := hb.2.1
  have lbl := hb.1
  have hq0 : QS ns { st with cur := i, vs := [], lev := 0 } := ⟨⟨fun v hv => (by cases hv), hq.ti.fs⟩, hq.tl, hq.rl, hq.fo, hi, fun v hv => (by cases hv)⟩
  have hub := hq.ub _ (fnAt_mem (fs := st.fs) (i := (i : Int)) (by omega) (by omega))
  have hv0 : VC { st with cur := i, vs := [], lev := 0 } := ⟨by show ((0 : Nat) : Int) ≤ _; have := hub.1; omega, by show ((0 : Nat) : Int) ≤ _; have := hub.2.2.1; omega⟩
  -- the parameters lie in lo .. pm, the body behind
  obtain ⟨pm, pm1, pm2, pm3, pm4⟩ : ∃ pm, lo - 1 ≤ pm ∧ (∀ y ∈ l, lo ≤ y ∧ y ≤ pm ∧ tyOK (ndAt ns y).val) ∧ GI ns (pm + 1) (ndAt ns x).b ∧ pm < (ndAt ns x).b := by
    cases hl : l.getLast? with
    | none =>
      have : l = [] := List.getLast?_eq_none_iff.1 hl
      subst this
      refine ⟨lo - 1, by omega, fun y hy => (by cases hy), ?_, by omega⟩
      rw [show lo - 1 + 1 = lo by omega]
      exact hg.sub (by omega)
    | some z =>
      have hz := List.mem_of_getLast? hl
      have := (c2 z hz).1
      refine ⟨z, by omega, fun y hy => ⟨(c2 y hy).1, ?_, (good y (by have := (c2 y hy).1; omega) (by have := (c2 y hy).2.1; omega)).1.f1 (c2 y hy).2.2⟩, (d3 z hz).2 hl, (d3 z hz).1⟩
      obtain ⟨l0, rfl⟩ := List.getLast?_eq_some_iff.1 hl
      rcases List.mem_append.1 hy with h | h
      · have := (List.pairwise_append.1 d2.inc).2.2 y h z (by simp)
        omega
      · simp only [List.mem_singleton] at h; omega
  obtain ⟨a1, a2, a3, a4, a5, a6⟩ := par_row pm l lo _ _ s1 h0 pm2 hq0 hv0 hq.ub e1
  obtain ⟨b1, b2, b3⟩ := tsc_blk good (ckS_tsc good ns.length) (lo := pm + 1) (by omega) (by omega) (by omega) pm3 hb.2.2 a2 q
  have b4 := ckB_ub (ckS_ub ns.length) q a4
  have a1' := a1.wide (lo' := lo) (hi' := x) (Int.le_refl _) (by omega)
  have b1' := b1.wide (lo' := lo) (hi' := x) (by omega) (by omega)
  have ab := a1'.trans b1'
  refine ⟨ab.fs, fun j hj => ⟨ab.te j hj, ab.re j hj⟩, ⟨b2.ti, b2.tl, b2.rl, b2.fo, b4⟩, fun T R fs hf ha => ?_⟩
  have hf1 := b1.fs.trans hf
  have hf0 : FS st.fs fs := ab.fs.trans hf
  have ec : s1.cur = i := a1.cur
  have d := b3 T R fs hf (ha.sub (by omega) (by omega))
  rw [ec] at d
  have en : (fnAt fs (i : Int)).node = x := by rw [(hf0.eq _).1, hn]
  have fo := hq.fo _ (fnAt_mem (fs := st.fs) (i := (i : Int)) (by omega) (by omega))
  unfold FnOK at fo
  rw [hn, ek] at fo
  have vs0 : cntI ([] : List Vr) = 0 ∧ cntR ([] : List Vr) = 0 := ⟨rfl, rfl⟩
  have a5 : cntI s1.vs = 0 + l.countP _ := a5
  have a6 : cntR s1.vs = 0 + l.countP _ := a6
  unfold VC at a3
  rw [ec] at a3
  have m1 := (hf1.mo (i : Int))
  refine ⟨?_, ?_, ?_⟩
  · rw [en]; exact d
  · rw [(hf0.eq _).2.2.1]; omega
  · rw [(hf0.eq _).2.2.2]; omega
/-- A row of functions. -/
def RowF (ns : List Nd) (lo hi : Int) (l : List Int) : Prop := (∀ y ∈ l, lo ≤ y ∧ y ≤ hi ∧ (ndAt ns y).kind = 0) ∧ (∀ y, l.head? = some y → GI ns lo y) ∧ Segs ns l
theorem RowF.tail {y : Int} {l : List Int} (h : RowF ns lo hi (y :: l)) : RowF ns (y + 1) hi l := by
  have hp := List.pairwise_cons.1 h.2.2.inc
  refine ⟨fun z hz => ⟨by have := hp.1 z hz; omega, (h.1 z (.tail _ hz)).2⟩, fun z hz => ?_, h.2.2.2⟩
  cases l with
  | nil => cases hz
  | cons q l => cases hz; exact h.2.2.1.2
theorem bodies_tf (good : Good 0 ns) : ∀ (l : List Int) (i : Nat) (lo : Int) (st : CS) (u : Unit) (st' : CS), 0 ≤ lo → RowF ns lo hi l → hi < ns.length → QF ns st → i + l.length = st.fs.length → (∀ k, k < l.length → l[k]? = some (fnAt st.fs ((i + k : Nat) : Int)).node) → ckBodies ns l.length i st = .ok (u, st') →
    FS st.fs st'.fs ∧ (∀ j : Nat, (j : Int) < lo ∨ hi < j → st'.ty[j]? = st.ty[j]? ∧ st'.ref[j]? = st.ref[j]?) ∧ QF ns st' ∧ ∀ T R fs, FS st'.fs fs → Ag T R lo hi st' → ∀ j : Nat, i ≤ j → j < st.fs.length → TF ns T R fs (fnAt fs (j : Int))
  | [], i, lo, st, u, st', h0, hr, hh, hq, hl, hk, q => by
    cases q
    exact ⟨FS.refl _, fun j _ => ⟨rfl, rfl⟩, hq, fun T R fs _ _ j h1 h2 => by simp at hl; omega⟩
  | y :: l, i, lo, st, u, st', h0, hr, hh, hq, hl, hk, q => by
    obtain ⟨_, s1, e1, q⟩ := cb_inv q
    have hy := hr.1 y (.head _)
    have n0 : (fnAt st.fs (i : Int)).node = y := by
      have := hk 0 (by simp)
      simp only [List.getElem?_cons_zero, Option.some.injEq, Nat.add_zero] at this
      exact this.symm
    simp only [List.length_cons] at hl
    obtain ⟨a1, a2, a3, a4⟩ := body_tf good h0 hy.1 (by omega) (hr.2.1 y rfl) hy.2.2 hq (by omega) n0 e1
    obtain ⟨b1, b2, b3, b4⟩ := bodies_tf good l (i + 1) (y + 1) s1 u st' (by omega) hr.tail hh a3 (by rw [a1.len]; omega) (fun k hk' => by
      have := hk (k + 1) (by simpa using hk')
      rw [List.getElem?_cons_succ] at this
      rw [this, (a1.eq _).1]
      congr 3; omega) q
    refine ⟨a1.trans b1, fun j hj => ⟨((b2 j (by omega)).1).trans (a2 j (by omega)).1, ((b2 j (by omega)).2).trans (a2 j (by omega)).2⟩, b3, fun T R fs hf ha j h1 h2 => ?_⟩
    by_cases e : j = i
    · subst e
      refine a4 T R fs (b1.trans hf) fun z z1 z2 => ?_
      obtain ⟨p1, p2⟩ := ha z z1 (by omega)
      have e2 := b2 z.toNat (.inl (by omega))
      exact ⟨p1.trans (gI_congr e2.1), p2.trans (gI_congr e2.2)⟩
    · exact b4 T R fs hf (ha.sub (by omega) (Int.le_refl _)) j (by omega) (by rw [a1.len]; exact h2)
end Go.Proofs.Qxb6500562aGreat
