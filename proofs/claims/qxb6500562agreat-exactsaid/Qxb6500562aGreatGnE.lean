/-
  The code generator: expressions, all of them.
-/
import Derived.Test.Qxb6500562aGreatGnD
namespace Go.Proofs.Qxb6500562aGreat
open Go.Den Go.Zip
set_option linter.unusedVariables false
set_option linter.unusedSimpArgs false
variable {w w' : World} {g : Nat} {P : Prg} {O O' : Nat → Prop} {hs en : List Int} {ck m : Nat} {L : List Sym} {x : Int}
theorem rowS_len_app (f : Int → Nat → List Sym) (l l' : List Int) (p : Nat) : (rowS f l p).length ≤ (rowS f (l ++ l') p).length := by rw [rowS_app, List.length_append]; omega
/-- The chain of a node, as the list of its members. -/
theorem chain_of {ns : List Nd} (good : Good 0 ns) (h0 : 0 ≤ x) (h1 : x < ns.length) (hk : (ndAt ns x).kind = 0 ∨ (ndAt ns x).kind = 2 ∨ (ndAt ns x).kind = 13) : Ch ns (ndAt ns x).a (kids ns (ndAt ns x).a) := by
  obtain ⟨g1, g2⟩ := good x h0 h1
  obtain ⟨l, c1, c2, _⟩ := g2.sl hk
  obtain ⟨l', d1, d2⟩ := g1.chain hk
  have := c1.uniq d1
  subst this
  rw [kids_of c1 c2 fun y hy => ⟨(d2 y hy).1, by have := (d2 y hy).2; omega⟩]
  exact c1
theorem kids_mem {ns : List Nd} (good : Good 0 ns) (h0 : 0 ≤ x) (h1 : x < ns.length) (hk : (ndAt ns x).kind = 13) : ∀ y ∈ kids ns (ndAt ns x).a, isE ns 0 x y := by
  obtain ⟨l, c1, c2⟩ := (good x h0 h1).1.f13 hk
  have := (chain_of good h0 h1 (.inr (.inr hk))).uniq c1
  rw [this]; exact c2
theorem kids_st {ns : List Nd} (good : Good 0 ns) (h0 : 0 ≤ x) (h1 : x < ns.length) (hk : (ndAt ns x).kind = 2) : ∀ y ∈ kids ns (ndAt ns x).a, isSt ns 0 x y := by
  obtain ⟨l, c1, c2⟩ := (good x h0 h1).1.f2 hk
  have := (chain_of good h0 h1 (.inr (.inl hk))).uniq c1
  rw [this]; exact c2
set_option maxHeartbeats 1000000 in
theorem expr_body {rk : Nat} {K : World → Prop} (good : Good 0 P.ns) (h : PE ck m P en rk g x w K) :
    B.gen_Engine_expr (fun x0 x1 w K => ∃ m', m' < rk ∧ PE ck m P en m' x0 x1 w K) (fun x0 x1 x2 x3 x4 x5 x6 x7 x8 w K => ∃ m', m' < rk ∧ PBn ck m P en m' x0 x1 x2 x3 x4 x5 x6 x7 x8 w K) (fun x0 x1 x2 x3 w K => ∃ m', m' < rk ∧ PSh ck m P en m' x0 x1 x2 x3 w K) g x w K := by
  obtain ⟨n, L, hs, O, rfl, hv, hn, q, hc, hh, hK⟩ := h
  unfold B.gen_Engine_expr
  obtain ⟨n, rfl⟩ : ∃ k, n = k + 1 := ⟨n - 1, by have := hv.1; omega⟩
  have nk := (good x hv.1 hv.2.1).1
  have x0 := hv.1
  have x1 := hv.2.1
  refine GQ.node q hv.1 hv.2.1 fun w1 q1 F1 => ?_
  refine lay8 (n := ndAt P.ns x) fun w2 p b2 hp F2 => ?_
  have q2 : GM w2 g ck m P L hs en O := GM.fr0 q1 F2
  have G2 : Gw O w O w2 := (Gw.new F1).trans (Gw.new F2)
  have hpo : ¬ O p := fun h => by have := q.lt h; have := F1.1.1; omega
  refine ldI b2 rfl (join_ ?_)
  have hks : (ndAt P.ns x).kind = 10 ∨ (ndAt P.ns x).kind = 11 ∨ (ndAt P.ns x).kind = 12 ∨ (ndAt P.ns x).kind = 13 ∨ (ndAt P.ns x).kind = 14 ∨ (ndAt P.ns x).kind = 15 ∨ (ndAt P.ns x).kind = 16 ∨ (ndAt P.ns x).kind = 17 ∨ (ndAt P.ns x).kind = 18 ∨ (ndAt P.ns x).kind = 19 := by have := hv.2.2; omega
  rcases hks with hk | hk | hk | hk | hk | hk | hk | hk | hk | hk
  · rw [hk]
    unfold cE at hc hK
    rw [sE_num (.inl hk)] at hc hK
    rw [numS_len] at hc
    repeat (first | rw [if_pos (by decide)] | rw [if_neg (by decide)] | dsimp only)
    exact ldI b2 (m := (ndAt P.ns x).val) rfl (gnum q2 (by omega) fun w3 O3 q3 G3 => hK w3 O3 q3 (G2.trans G3))
  · rw [hk]
    unfold cE at hc hK
    rw [sE_num (.inr hk)] at hc hK
    rw [numS_len] at hc
    repeat (first | rw [if_pos (by decide)] | rw [if_neg (by decide)] | dsimp only)
    exact ldI b2 (m := (ndAt P.ns x).val) rfl (gnum q2 (by omega) fun w3 O3 q3 G3 => hK w3 O3 q3 (G2.trans G3))
  · rw [hk]
    unfold cE at hc hK
    rw [sE_12 hk] at hc hK
    rw [byS_len] at hc
    simp only [List.length_cons, List.length_nil] at hc
    repeat (first | rw [if_pos (by decide)] | rw [if_neg (by decide)] | dsimp only)
    exact q2.ty x0 x1 (gclass_spec (i := 2) (r := 4) (q2.ref x0 x1 (gslot q2 (cls_lt (by omega) (by omega)) (by omega) fun w3 O3 q3 G3 => hK w3 O3 q3 (G2.trans G3))))
  · rw [hk]
    unfold cE at hc hK
    rw [sE_13 hk] at hc hK
    have km := kids_mem good x0 x1 hk
    have kc := chain_of good x0 x1 (.inr (.inr hk))
    generalize hl : kids P.ns (ndAt P.ns x).a = l at *
    rw [List.length_append] at hc
    simp only [List.length_cons, List.length_nil] at hc
    repeat (first | rw [if_pos (by decide)] | rw [if_neg (by decide)] | dsimp only)
    refine ldI b2 (m := (ndAt P.ns x).a) rfl ?_
    refine join_W (fun u => ∃ O', GM u g ck m P (L ++ rowS (sE P.ns P.st.ty P.st.ref n) l L.length) hs en O' ∧ Gw O w O' u) ?_ ?_
    · rintro u ⟨O3, q3, G3⟩
      refine q3.ref x0 x1 (gcall q3 (by rw [List.length_append]; omega) fun w4 O4 q4 G4 => hK w4 O4 ?_ (G3.trans G4))
      rw [List.append_assoc] at q4
      exact q4
    · intro J hJ
      refine loopN (fun k v u => ∃ l1 l2 a O', v = (a, ()) ∧ l = l1 ++ l2 ∧ k = l2.length ∧ Ch P.ns a l2 ∧ GM u g ck m P (L ++ rowS (sE P.ns P.st.ty P.st.ref n) l1 L.length) hs en O' ∧ Gw O w O' u) l.length ⟨[], l, _, O, rfl, rfl, rfl, kc, by simpa [rowS] using q2, G2⟩ ?_
      rintro k _ u ⟨l1, l2, a, O3, rfl, hll, rfl, hch, q3, G3⟩ Q hQ
      dsimp only
      cases l2 with
      | nil =>
        have ha : a = -1 := hch
        rw [if_neg (by simp only [decide_eq_true_eq]; omega)]
        rw [List.append_nil] at hll
        subst hll
        exact hJ u ⟨O3, q3, G3⟩
      | cons y l2 =>
        obtain ⟨rfl, hy0, hch'⟩ := hch
        rw [if_pos (by simp only [decide_eq_true_eq]; omega)]
        have iy := km a (by rw [hll]; simp)
        have vy := iy.ve x1
        have ly := iy.2.1
        have hlen : (rowS (sE P.ns P.st.ty P.st.ref n) l L.length).length = (rowS (sE P.ns P.st.ty P.st.ref n) l1 L.length).length + (sE P.ns P.st.ty P.st.ref n a (L.length + (rowS (sE P.ns P.st.ty P.st.ref n) l1 L.length).length)).length + (rowS (sE P.ns P.st.ty P.st.ref n) l2 (L.length + (rowS (sE P.ns P.st.ty P.st.ref n) l1 L.length).length + (sE P.ns P.st.ty P.st.ref n a (L.length + (rowS (sE P.ns P.st.ty P.st.ref n) l1 L.length).length)).length)).length := by
          rw [hll, rowS_app, List.length_append]
          simp only [rowS, List.length_append]
          omega
        refine recE (n := n) q3 vy (by omega) (by omega) (by rw [List.length_append]; unfold cE; omega) (by omega) fun w4 O4 q4 G4 => ?_
        refine GQ.node q4 vy.1 vy.2.1 fun w5 q5 F5 => ?_
        refine hQ l2.length _ w5 (by simp) ⟨l1 ++ [a], l2, _, O4, rfl, by rw [hll]; simp, rfl, hch', ?_, (G3.trans G4).trans (Gw.new F5)⟩
        have e : L ++ rowS (sE P.ns P.st.ty P.st.ref n) (l1 ++ [a]) L.length = L ++ rowS (sE P.ns P.st.ty P.st.ref n) l1 L.length ++ cE P n a (L ++ rowS (sE P.ns P.st.ty P.st.ref n) l1 L.length).length := by
          rw [rowS_app, List.length_append]
          simp only [rowS, List.append_nil, List.append_assoc]
        rw [e]
        exact q5
  · rw [hk]
    unfold cE at hc hK
    rw [sE_14 hk] at hc hK
    simp only [List.length_append, byS_len, List.length_cons, List.length_nil] at hc
    have va := (nk.f14 hk).1.ve x1
    have vb := (nk.f14 hk).2.ve x1
    have la := (nk.f14 hk).1.2.1
    have lb := (nk.f14 hk).2.2.1
    have a0 := va.1
    have b0 := vb.1
    repeat (first | rw [if_pos (by decide)] | rw [if_neg (by decide)] | dsimp only)
    refine ldI b2 (m := (ndAt P.ns x).a) rfl ?_
    refine recE (n := n) q2 va (by omega) (by omega) (by unfold cE; omega) (by omega) fun w3 O3 q3 G3 => ?_
    obtain ⟨b3, hp3⟩ := keepB b2 hpo G3
    refine ldI b3 (m := (ndAt P.ns x).b) rfl ?_
    refine recE (n := n) q3 vb (by omega) (by omega) (by simp only [List.length_append]; unfold cE; omega) (by omega) fun w4 O4 q4 G4 => ?_
    refine q4.ty x0 x1 (gclass_spec (i := 30) (r := 31) (gop q4 (cls_lt (by omega) (by omega)) (by simp only [List.length_append]; unfold cE; omega) fun w5 O5 q5 G5 => hK w5 O5 ?_ (((G2.trans G3).trans G4).trans G5)))
    simp only [List.length_append, List.append_assoc] at q5 ⊢
    exact q5
  · rw [hk]
    unfold cE at hc hK
    rw [sE_15 hk] at hc hK
    simp only [List.length_append, byS_len, List.length_cons, List.length_nil] at hc
    have va := (nk.f15 hk).1.ve x1
    have la := (nk.f15 hk).1.2.1
    have a0 := va.1
    repeat (first | rw [if_pos (by decide)] | rw [if_neg (by decide)] | dsimp only)
    refine ldI b2 (m := (ndAt P.ns x).a) rfl ?_
    refine recE (n := n) q2 va (by omega) (by omega) (by unfold cE; omega) (by omega) fun w3 O3 q3 G3 => ?_
    obtain ⟨b3, hp3⟩ := keepB b2 hpo G3
    refine ldI b3 (m := (ndAt P.ns x).val) rfl (gclass_spec (i := 28) (r := 29) (gop q3 (cls_lt (by omega) (by omega)) (by simp only [List.length_append]; unfold cE; omega) fun w5 O5 q5 G5 => hK w5 O5 ?_ ((G2.trans G3).trans G5)))
    simp only [List.append_assoc] at q5 ⊢
    exact q5
  · rw [hk]
    unfold cE at hc hK
    rw [sE_16 hk] at hc hK
    simp only [List.length_append, byS_len, List.length_cons, List.length_nil] at hc
    have va := (nk.f16 hk).ve x1
    have la := (nk.f16 hk).2.1
    have a0 := va.1
    repeat (first | rw [if_pos (by decide)] | rw [if_neg (by decide)] | dsimp only)
    refine ldI b2 (m := (ndAt P.ns x).a) rfl ?_
    refine recE (n := n) q2 va (by omega) (by omega) (by unfold cE; omega) (by omega) fun w3 O3 q3 G3 => ?_
    refine gop (o := 34) q3 (by omega) (by simp only [List.length_append]; unfold cE; omega) fun w5 O5 q5 G5 => hK w5 O5 ?_ ((G2.trans G3).trans G5)
    simp only [List.append_assoc] at q5 ⊢
    exact q5
  · rw [hk]
    unfold cE at hc hK
    rw [sE_17 hk] at hc hK
    simp only [byS_len, List.length_cons, List.length_nil] at hc
    repeat (first | rw [if_pos (by decide)] | rw [if_neg (by decide)] | dsimp only)
    exact gop (o := 36) q2 (by omega) (by omega) fun w5 O5 q5 G5 => hK w5 O5 q5 (G2.trans G5)
  · rw [hk]
    repeat (first | rw [if_pos (by decide)] | rw [if_neg (by decide)] | dsimp only)
    refine ldI b2 (m := (ndAt P.ns x).kind) rfl (ldI b2 (m := (ndAt P.ns x).a) rfl (ldI b2 (m := (ndAt P.ns x).b) rfl (ldI b2 (m := (ndAt P.ns x).c) rfl (ldI b2 (m := (ndAt P.ns x).next) rfl (ldI b2 (m := (ndAt P.ns x).val) rfl (ldI b2 (m := (ndAt P.ns x).pos) rfl (ldStr b2 (m := (ndAt P.ns x).name) rfl ?_)))))))
    exact ⟨4 * x.toNat + 1, by omega, n, x, L, hs, O, rfl, hv, hn, hk, rfl, rfl, rfl, q2, hc, hh, fun w5 O5 q5 G5 => hK w5 O5 q5 (G2.trans G5)⟩
  · rw [hk]
    unfold cE at hc hK
    rw [sE_19 hk] at hc hK
    simp only [List.length_append, byS_len, List.length_cons, List.length_nil] at hc
    have va := (nk.f19 hk).1.ve x1
    have la := (nk.f19 hk).1.2.1
    have a0 := va.1
    repeat (first | rw [if_pos (by decide)] | rw [if_neg (by decide)] | dsimp only)
    refine ldI b2 (m := (ndAt P.ns x).a) rfl ?_
    refine recE (n := n) q2 va (by omega) (by omega) (by unfold cE; omega) (by omega) fun w3 O3 q3 G3 => ?_
    obtain ⟨b3, hp3⟩ := keepB b2 hpo G3
    refine ldI b3 (m := (ndAt P.ns x).val) rfl ?_
    by_cases hvv : (ndAt P.ns x).val = 39
    · rw [if_pos (by simpa using hvv)]
      rw [if_pos hvv] at hK
      refine gop (o := 14) q3 (by omega) (by simp only [List.length_append]; unfold cE; omega) fun w5 O5 q5 G5 => hK w5 O5 ?_ ((G2.trans G3).trans G5)
      simp only [List.append_assoc] at q5 ⊢
      exact q5
    · rw [if_neg (by simpa using hvv)]
      rw [if_neg hvv] at hK
      refine gop (o := 13) q3 (by omega) (by simp only [List.length_append]; unfold cE; omega) fun w5 O5 q5 G5 => hK w5 O5 ?_ ((G2.trans G3).trans G5)
      simp only [List.append_assoc] at q5 ⊢
      exact q5
theorem gexpr_spec {n : Nat} {K : World → Prop} (good : Good 0 P.ns) (q : GM w g ck m P L hs en O) (hv : VE P.ns x) (hn : x < ((n : Nat) : Int)) (hc : L.length + (cE P n x L.length).length ≤ 60000) (hh : hs.length + x.toNat ≤ 5000)
    (hK : ∀ w' O', GM w' g ck m P (L ++ cE P n x L.length) hs en O' → Gw O w O' w' → K w') : S.gen_Engine_expr g x w K :=
  ⟨PE ck m P en, PBn ck m P en, PSh ck m P en, ⟨fun _ _ _ _ _ h => expr_body good h, fun _ _ _ _ _ _ _ _ _ _ _ _ h => bin_body good h, fun _ _ _ _ _ _ _ h => short_body h⟩, _, n, L, hs, O, rfl, hv, hn, q, hc, hh, hK⟩
end Go.Proofs.Qxb6500562aGreat
