/-
  The real checker: expressions, all.
-/
import Derived.Test.Qxb6500562aGreatCrD
namespace Go.Proofs.Qxb6500562aGreat
open Go.Den Go.Zip
set_option linter.unusedVariables false
set_option linter.unusedSimpArgs false
variable {α β : Type} {ns : List Nd} {w0 w w' : World} {P : Nat → Prop} {c ps tb p : Nat} {st : CS} {L : List (Nat × List Value)} {vs : List Value}

theorem rexpr_body {Rw : X2} {Re Rc' Rb' : X1} {n : Nat} {x lo : Int} {K : Int → World → Prop} (hx : x < ns.length) (h0 : 0 ≤ lo) (h1 : lo ≤ x) (hg : GI ns lo x) (hk : kE (ndAt ns x).kind)
    (he : SE ns w0 P c ps tb Re n x) (hi : SW ns w0 P c ps tb Rw n x) (hc : SO ns w0 P c ps tb Rc' n x 13) (hb : SO ns w0 P c ps tb Rb' n x 18) (h : CQ ns w0 P c ps tb st L w)
    (hK : ∀ r w', CO ns w0 P c ps tb (ckE ns (n + 1) x st) L w' → Rc (ckE ns (n + 1) x st) r → K r w') : B.check_Checker_expr Rw Re Rc' Rb' c x w K := by
  unfold B.check_Checker_expr
  have good := h.good
  have ho := hg x h1 (Int.le_refl _)
  have hs := (good x (by omega) hx).2
  refine h.nd (k := 0) (by omega) hx (by omega) rfl ?_
  have etg : ckE ns (n + 1) x st = ckE ns (n + 1) x st := rfl
  conv at etg => rhs; unfold ckE
  generalize htg : ckE ns (n + 1) x st = tg at *
  refine join_P (fun (t : Int) u => ∃ o : CR Int, CO ns w0 P c ps tb o L u ∧ Rc o t ∧ (∀ t st', o = .ok (t, st') → 0 ≤ t) ∧ tg = cb o fun t st => setTy x t st) ?_ ?_
  · rintro t u ⟨o, hu, hr, hp, rfl⟩
    rcases o with q | ⟨t', s1⟩
    · have hr : t = -1 := hr
      subst hr
      rw [if_neg (by simp)]
      exact hK _ u hu rfl
    · have hr : t = t' := hr
      subst hr
      rw [if_pos (by simpa using hp t s1 rfl)]
      have hu : CQ ns w0 P c ps tb s1 L u := hu
      exact hu.setTy (by omega) hx fun w2 h2 => hK t w2 h2 rfl
  intro J9 hJ9
  have done : ∀ t u s1, 0 ≤ t → CQ ns w0 P c ps tb s1 L u → tg = setTy x t s1 → J9 t u := fun t u s1 ht hu e => hJ9 t u ⟨.ok (t, s1), hu, rfl, fun _ _ h => (by cases h; exact ht), e⟩
  have bad : ∀ u q, CO ns w0 P c ps tb (.error q : CR Int) L u → tg = .error q → K (-1) u := fun u q hu ht => hK _ u (by rw [ht]; exact hu) (by rw [ht]; rfl)
  -- a part of one type
  have part : ∀ (ty t : Int) (y lo' : Int) (u : World) (s1 : CS), 0 ≤ t → 0 ≤ lo' → lo' ≤ y → y < x → GI ns lo' y → kE (ndAt ns y).kind → CQ ns w0 P c ps tb s1 L u → (tg = cb (isTy ns (ckE ns n) y ty s1) fun _ st => setTy x t st) →
      Rw c y ty u (fun r w => if (!r) = true then K (-1) w else J9 t w) := by
    intro ty t y lo' u s1 ht h0' h1' h2' hg' hk' hu e
    refine hi y lo' ty s1 L u _ h0' h1' h2' hg' hk' hu fun r w1 q1 r1 => ?_
    cases hv : isTy ns (ckE ns n) y ty s1 with
    | error q =>
      rw [hv] at q1 e
      rw [r1.ff hv, if_pos (by rfl)]
      exact bad w1 q q1 e
    | ok tt =>
      obtain ⟨_, s2⟩ := tt
      rw [r1.tt hv, if_neg (by decide)]
      rw [hv] at q1 e
      exact done t w1 s2 ht q1 e
  refine if_k (fun k => ?_) fun k11 => ?_
  · rw [if_pos k] at etg
    exact done 1 w st (by omega) h etg
  rw [if_neg k11] at etg
  refine if_k (fun k => ?_) fun k12 => ?_
  · rw [if_pos k] at etg
    refine drew_ ?_
    have h := h.drew
    generalize w.drew = w at *
    refine h.ndName (by omega) hx ?_
    refine vfind h (h.name_sz (by omega) hx) fun w1 h => ?_
    have hnl : (vnames st).length = st.vs.length := by simp [vnames]
    have hvl := vs_le h.inv
    rcases nameIx_range (vnames st) (ndAt ns x).name with hneg | ⟨hp0, hp1⟩
    · rw [if_pos (by rw [hneg]; decide)]
      rw [if_pos (by rw [hneg]; decide)] at etg
      refine h.nd (k := 6) (by omega) hx (by omega) rfl ?_
      refine rnone h (by decide) fun w2 h2 => ?_
      exact bad w2 (_, _) h2 etg
    rw [if_neg (by simpa using hp0)]
    rw [if_neg (by omega)] at etg
    rw [hnl] at hp1
    generalize hix : nameIx (vnames st) (ndAt ns x).name = vi at *
    obtain ⟨k', rfl⟩ : ∃ k' : Nat, vi = k' := ⟨vi.toNat, by omega⟩
    have hkl : k' < st.vs.length := by omega
    refine ⟨by omega, by omega, ?_⟩
    rw [Int.toNat_natCast]
    have hty := h.inv.ti.vr (k' : Int)
    obtain ⟨f, bty, bre, g1, g2, g3, g4, g5, g6⟩ := h.ex
    refine ldF g3 (by omega) (g4.vp k' hkl).1 ?_
    refine drew_ ?_
    have h := h.drew
    generalize w1.drew = w1 at *
    obtain ⟨f, bty, bre, g1, g2, g3, g4, g5, g6⟩ := h.ex
    refine ldFL g3 (by omega) g4.rf ?_
    refine ⟨by omega, by omega, ?_⟩
    refine ldF g3 (by omega) (g4.vp k' hkl).2.1 ?_
    have hset := h.setRef (x := x) (t := (vrAt st.vs (k' : Int)).slot) (K := fun w => J9 (vrAt st.vs (k' : Int)).ty w) (by omega) hx fun w2 h2 => done _ w2 _ hty.1 h2 etg
    obtain ⟨sl, e1, e2⟩ := hset
    rw [g3.cell, tab_get (by omega), g4.rf] at e1
    obtain ⟨sa, sll, sc⟩ := sl
    injection (Option.some.inj e1) with i1 i2 i3
    subst i1 i2 i3
    exact e2
  rw [if_neg k12] at etg
  refine if_k (fun k => ?_) fun k13 => ?_
  · refine hc lo st L w _ h0 h1 hx hg k h fun r w1 o q1 r1 hp e => ?_
    exact hJ9 r w1 ⟨o, q1, r1, hp, by rw [← htg]; exact e⟩
  rw [if_neg k13] at etg
  refine if_k (fun k => ?_) fun k14 => ?_
  · rw [if_pos k] at etg
    obtain ⟨i1, i2⟩ := ho.f14 k
    obtain ⟨g1, g2⟩ := hs.s2 (.inl k)
    have ga := hg.sub (y := (ndAt ns x).a) (by have := i1.2.1; omega)
    have ia1 := i1.1
    have ia2 := i1.2.1
    have ib2 := i2.2.1
    refine h.nd (k := 1) (by omega) hx (by omega) rfl ?_
    refine he _ lo st L w _ h0 ia1 ia2 ga i1.2.2 h fun r1 w1 q1 r1' => ?_
    cases hv : ckE ns n (ndAt ns x).a st with
    | error q =>
      rw [hv] at q1 r1' etg
      have r1' : r1 = -1 := r1'
      subst r1'
      rw [if_pos (by decide)]
      exact bad w1 q q1 etg
    | ok tt =>
      obtain ⟨t, s1⟩ := tt
      have hp := ckE_pos h h0 ia1 (by omega) ga i1.2.2 hv
      rw [hv] at q1 r1' etg
      have r1' : r1 = t := r1'
      subst r1'
      have hp1 := hp.1
      have hp2 := hp.2
      rw [if_neg (by simpa using hp1)]
      rw [cb_ok] at etg
      have q1 : CQ ns w0 P c ps tb s1 L w1 := q1
      by_cases ht2 : r1 < 2
      · rw [if_pos (by simpa using ht2)]
        rw [if_pos ht2] at etg
        refine q1.nd (k := 6) (by omega) hx (by omega) rfl ?_
        refine rnone q1 (by decide) fun w2 h2 => ?_
        exact bad w2 (_, _) h2 etg
      · rw [if_neg (by simpa using ht2)]
        rw [if_neg ht2] at etg
        refine let_ ?_
        rw [W_id (by omega) (by omega)]
        refine q1.nd (k := 2) (by omega) hx (by omega) rfl ?_
        exact part 0 (r1 - 2) _ ((ndAt ns x).a + 1) w1 s1 (by omega) (by omega) (by omega) ib2 g2 i2.2.2 q1 etg
  rw [if_neg k14] at etg
  refine if_k (fun k => ?_) fun k15 => ?_
  · rw [if_pos k] at etg
    obtain ⟨i1, i2⟩ := ho.f15 k
    have ia1 := i1.1
    have ia2 := i1.2.1
    refine h.nd (k := 5) (by omega) hx (by omega) rfl ?_
    by_cases ht2 : (ndAt ns x).val < 2
    · rw [if_pos (by simpa using ht2)]
      rw [if_pos ht2] at etg
      refine h.nd (k := 6) (by omega) hx (by omega) rfl ?_
      refine rnone h (by decide) fun w2 h2 => ?_
      exact bad w2 (_, _) h2 etg
    · rw [if_neg (by simpa using ht2)]
      rw [if_neg ht2] at etg
      refine h.nd (k := 1) (by omega) hx (by omega) rfl ?_
      exact part 0 _ _ lo w st (by omega) h0 ia1 ia2 (hg.sub (by omega)) i1.2.2 h etg
  rw [if_neg k15] at etg
  refine if_k (fun k => ?_) fun k16 => ?_
  · rw [if_pos k] at etg
    have i1 := ho.f16 k
    have ia1 := i1.1
    have ia2 := i1.2.1
    have ga := hg.sub (y := (ndAt ns x).a) (by omega)
    refine h.nd (k := 1) (by omega) hx (by omega) rfl ?_
    refine he _ lo st L w _ h0 ia1 ia2 ga i1.2.2 h fun r1 w1 q1 r1' => ?_
    cases hv : ckE ns n (ndAt ns x).a st with
    | error q =>
      rw [hv] at q1 r1' etg
      have r1' : r1 = -1 := r1'
      subst r1'
      rw [if_pos (by decide)]
      exact bad w1 q q1 etg
    | ok tt =>
      obtain ⟨t, s1⟩ := tt
      have hp := ckE_pos h h0 ia1 (by omega) ga i1.2.2 hv
      rw [hv] at q1 r1' etg
      have r1' : r1 = t := r1'
      subst r1'
      have hp1 := hp.1
      rw [if_neg (by simpa using hp1)]
      rw [cb_ok] at etg
      have q1 : CQ ns w0 P c ps tb s1 L w1 := q1
      by_cases ht2 : r1 < 2
      · rw [if_pos (by simpa using ht2)]
        rw [if_pos ht2] at etg
        refine drew_ ?_
        have q1 := q1.drew
        generalize w1.drew = w1 at *
        refine q1.tS (q1.nd (k := 1) (by omega) hx (by omega) rfl ?_)
        refine q1.tI (k := 6) (by omega) (by omega) (by omega) rfl ?_
        refine rnone q1 (by decide) fun w2 h2 => ?_
        exact bad w2 (_, _) h2 etg
      · rw [if_neg (by simpa using ht2)]
        rw [if_neg ht2] at etg
        exact done 0 w1 s1 (by omega) q1 etg
  rw [if_neg k16] at etg
  refine if_k (fun k => ?_) fun k19 => ?_
  · rw [if_pos k] at etg
    obtain ⟨i1, i2⟩ := ho.f19 k
    have ia1 := i1.1
    have ia2 := i1.2.1
    refine h.nd (k := 5) (by omega) hx (by omega) rfl ?_
    refine join_P (fun (t : Int) u => u = w ∧ t = if (ndAt ns x).val = 39 then 1 else 0) ?_ ?_
    · rintro t u ⟨rfl, ht⟩
      rw [← ht] at etg
      refine h.nd (k := 1) (by omega) hx (by omega) rfl ?_
      exact part t t _ lo u st (by rw [ht]; split <;> omega) h0 ia1 ia2 (hg.sub (by omega)) i1.2.2 h etg
    · intro J hJ
      refine if_k (fun e => hJ _ _ ⟨rfl, by rw [if_pos e]⟩) fun n1 => hJ _ _ ⟨rfl, by rw [if_neg n1]⟩
  rw [if_neg k19] at etg
  refine if_k (fun k => ?_) fun k18 => ?_
  · refine hb lo st L w _ h0 h1 hx hg k h fun r w1 o q1 r1 hp e => ?_
    exact hJ9 r w1 ⟨o, q1, r1, hp, by rw [← htg]; exact e⟩
  rw [if_neg k18] at etg
  exact done 0 w st (by omega) h etg
theorem rexpr_all (ns : List Nd) (w0 : World) (P : Nat → Prop) (c ps tb : Nat) : (∀ n : Nat, SE ns w0 P c ps tb S.check_Checker_expr n (if (n : Int) < ns.length then n else ns.length)) ∧ (∀ n : Nat, SW ns w0 P c ps tb S.check_Checker_want n (if (n : Int) < ns.length then n else ns.length)) := by
  let PW : Nat → Nat → Int → Int → World → (Bool → World → Prop) → Prop := fun m c' x ty w K => ∃ (n : Nat) (lo : Int) (st : CS) (L : List (Nat × List Value)), c' = c ∧ m = 3 * x.toNat + 2 ∧ 0 ≤ lo ∧ lo ≤ x ∧ x < ns.length ∧ x < n ∧ GI ns lo x ∧ kE (ndAt ns x).kind ∧ CQ ns w0 P c ps tb st L w ∧ (∀ r w', CO ns w0 P c ps tb (isTy ns (ckE ns n) x ty st) L w' → Rb (isTy ns (ckE ns n) x ty st) r → K r w')
  let PE : Nat → Nat → Int → World → (Int → World → Prop) → Prop := fun m c' x w K => ∃ (n : Nat) (lo : Int) (st : CS) (L : List (Nat × List Value)), c' = c ∧ m = 3 * x.toNat + 1 ∧ 0 ≤ lo ∧ lo ≤ x ∧ x < ns.length ∧ x < n ∧ GI ns lo x ∧ kE (ndAt ns x).kind ∧ CQ ns w0 P c ps tb st L w ∧ (∀ r w', CO ns w0 P c ps tb (ckE ns n x st) L w' → Rc (ckE ns n x st) r → K r w')
  let PO : Int → Nat → Nat → Int → World → (Int → World → Prop) → Prop := fun k m c' x w K => ∃ (n : Nat) (lo : Int) (st : CS) (L : List (Nat × List Value)), c' = c ∧ m = 3 * x.toNat ∧ 0 ≤ lo ∧ lo ≤ x ∧ x < ns.length ∧ x ≤ n ∧ GI ns lo x ∧ (ndAt ns x).kind = k ∧ CQ ns w0 P c ps tb st L w ∧
    (∀ r w' (o : CR Int), CO ns w0 P c ps tb o L w' → Rc o r → (∀ t st', o = .ok (t, st') → 0 ≤ t) → ckE ns (n + 1) x st = cb o (fun t st => setTy x t st) → K r w')
  have hG : T.G190 PW PE (PO 13) (PO 18) := by
    refine ⟨?_, ?_, ?_, ?_⟩
    · rintro m c' x ty w K ⟨n, lo, st, L, rfl, rfl, h0, h1, h2, h3, hg, hk, h, hK⟩
      refine rwant_body h2 h0 h1 hg hk (fun x' lo' st' L' w' K' a0 a1 a2 a3 a4 a5 a6 => ?_) h hK
      exact ⟨3 * x'.toNat + 1, by omega, n, lo', st', L', rfl, rfl, a0, a1, by omega, by omega, a3, a4, a5, a6⟩
    · rintro m c' x w K ⟨n, lo, st, L, rfl, rfl, h0, h1, h2, h3, hg, hk, h, hK⟩
      cases n with
      | zero => omega
      | succ n =>
        refine rexpr_body h2 h0 h1 hg hk (fun x' lo' st' L' w' K' a0 a1 a2 a3 a4 a5 a6 => ?_) (fun x' lo' ty' st' L' w' K' a0 a1 a2 a3 a4 a5 a6 => ?_) (fun lo' st' L' w' K' a0 a1 a2 a3 a4 a5 a6 => ?_) (fun lo' st' L' w' K' a0 a1 a2 a3 a4 a5 a6 => ?_) h hK
        · exact ⟨3 * x'.toNat + 1, by omega, n, lo', st', L', rfl, rfl, a0, a1, by omega, by omega, a3, a4, a5, a6⟩
        · exact ⟨3 * x'.toNat + 2, by omega, n, lo', st', L', rfl, rfl, a0, a1, by omega, by omega, a3, a4, a5, a6⟩
        · exact ⟨3 * x.toNat, by omega, n, lo', st', L', rfl, rfl, a0, a1, a2, by omega, a3, a4, a5, a6⟩
        · exact ⟨3 * x.toNat, by omega, n, lo', st', L', rfl, rfl, a0, a1, a2, by omega, a3, a4, a5, a6⟩
    · rintro m c' x w K ⟨n, lo, st, L, rfl, rfl, h0, h1, h2, h3, hg, hk, h, hK⟩
      refine rcall_body h2 h0 h1 hg hk (fun x' lo' st' L' w' K' a0 a1 a2 a3 a4 a5 a6 => ?_) h hK
      exact ⟨3 * x'.toNat + 1, by omega, n, lo', st', L', rfl, rfl, a0, a1, by omega, by omega, a3, a4, a5, a6⟩
    · rintro m c' x w K ⟨n, lo, st, L, rfl, rfl, h0, h1, h2, h3, hg, hk, h, hK⟩
      refine rcbin_body h2 h0 h1 hg hk (fun x' lo' st' L' w' K' a0 a1 a2 a3 a4 a5 a6 => ?_) (fun x' lo' ty' st' L' w' K' a0 a1 a2 a3 a4 a5 a6 => ?_) h hK
      · exact ⟨3 * x'.toNat + 1, by omega, n, lo', st', L', rfl, rfl, a0, a1, by omega, by omega, a3, a4, a5, a6⟩
      · exact ⟨3 * x'.toNat + 2, by omega, n, lo', st', L', rfl, rfl, a0, a1, by omega, by omega, a3, a4, a5, a6⟩
  refine ⟨?_, ?_⟩
  · intro n x lo st L w K h0 h1 h2 hg hk h hK
    exact ⟨PW, PE, PO 13, PO 18, hG, 3 * x.toNat + 1, n, lo, st, L, rfl, rfl, h0, h1, by split at h2 <;> omega, by split at h2 <;> omega, hg, hk, h, hK⟩
  · intro n x lo ty st L w K h0 h1 h2 hg hk h hK
    exact ⟨PW, PE, PO 13, PO 18, hG, 3 * x.toNat + 2, n, lo, st, L, rfl, rfl, h0, h1, by split at h2 <;> omega, by split at h2 <;> omega, hg, hk, h, hK⟩
theorem rexpr_top (ns : List Nd) (w0 : World) (P : Nat → Prop) (c ps tb : Nat) : SE ns w0 P c ps tb S.check_Checker_expr ns.length ns.length ∧ SW ns w0 P c ps tb S.check_Checker_want ns.length ns.length := by
  obtain ⟨h1, h2⟩ := rexpr_all ns w0 P c ps tb
  have h1 := h1 ns.length
  have h2 := h2 ns.length
  rw [if_neg (by omega)] at h1 h2
  exact ⟨h1, h2⟩
end Go.Proofs.Qxb6500562aGreat
