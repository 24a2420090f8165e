/-
  The code generator: statements, blocks.
-/
import Derived.Test.Qxb6500562aGreatGnF
namespace Go.Proofs.Qxb6500562aGreat
open Go.Den Go.Zip
set_option linter.unusedVariables false
set_option linter.unusedSimpArgs false
variable {w w' : World} {g : Nat} {P : Prg} {O O' : Nat → Prop} {hs en : List Int} {ck m : Nat} {L : List Sym} {x : Int}
theorem recB {rk n : Nat} {K : World → Prop} (q : GM w g ck m P L hs en O) (hy : 0 ≤ x ∧ x < P.ns.length ∧ (ndAt P.ns x).kind = 2) (hr : 2 * x.toNat < rk) (hn : x ≤ ((n : Nat) : Int)) (hc : L.length + (cB P n x L.length).length ≤ 60000) (hh : hs.length + x.toNat ≤ 5000)
    (hK : ∀ w' O', GM w' g ck m P (L ++ cB P n x L.length) hs en O' → Gw O w O' w' → K w') : ∃ m', m' < rk ∧ PBk ck m P en m' g x w K := ⟨_, hr, n, L, hs, O, rfl, hy, hn, q, hc, hh, hK⟩
theorem len3 (L : List Sym) (o a b : Nat) : (L ++ byS [o, a, b]).length = L.length + 3 := by simp only [List.length_append, byS_len, List.length_cons, List.length_nil]
set_option maxHeartbeats 1000000 in
theorem stmt_body {rk : Nat} {K : World → Prop} (good : Good 0 P.ns) (h : PSt ck m P en rk g x w K) :
    B.gen_Engine_stmt (fun x0 x1 w K => ∃ m', m' < rk ∧ PBk ck m P en m' x0 x1 w K) (fun x0 x1 w K => ∃ m', m' < rk ∧ PSt ck m P en m' x0 x1 w K) g x w K := by
  obtain ⟨n, L, hs, O, rfl, hv, hn, q, hc, hh, hK⟩ := h
  unfold B.gen_Engine_stmt
  obtain ⟨n, rfl⟩ : ∃ k, n = k + 1 := ⟨n - 1, by have := hv.1; omega⟩
  have nk := (good x hv.1 hv.2.1).1
  have x0 := hv.1
  have x1 := hv.2.1
  refine GQ.node q hv.1 hv.2.1 fun w1 q1 F1 => ?_
  refine lay8 (n := ndAt P.ns x) fun w2 p b2 hp F2 => ?_
  have q2 : GM w2 g ck m P L hs en O := GM.fr0 q1 F2
  have G2 : Gw O w O w2 := (Gw.new F1).trans (Gw.new F2)
  have hpo : ¬ O p := fun h => by have := q.lt h; have := F1.1.1; omega
  refine ldI b2 rfl ?_
  have hks : (ndAt P.ns x).kind = 3 ∨ (ndAt P.ns x).kind = 4 ∨ (ndAt P.ns x).kind = 5 ∨ (ndAt P.ns x).kind = 6 ∨ (ndAt P.ns x).kind = 7 ∨ (ndAt P.ns x).kind = 8 ∨ (ndAt P.ns x).kind = 9 := by have := hv.2.2; omega
  rcases hks with hk | hk | hk | hk | hk | hk | hk
  · rw [hk]
    unfold cS at hc hK
    rw [sS_3 hk] at hc hK
    unfold sX at hc hK
    simp only [List.length_append, byS_len, List.length_cons, List.length_nil] at hc
    have va := (nk.f3 hk).1.ve x1
    have la := (nk.f3 hk).1.2.1
    have a0 := va.1
    repeat (first | rw [if_pos (by decide)] | rw [if_neg (by decide)] | dsimp only)
    refine ldI b2 (m := (ndAt P.ns x).a) rfl ?_
    refine gexpr_spec (n := P.ns.length) good q2 va (by omega) (by unfold cE; omega) (by omega) fun w3 O3 q3 G3 => ?_
    obtain ⟨b3, _⟩ := keepB b2 hpo G3
    refine ldI b3 (m := (ndAt P.ns x).val) rfl ?_
    refine gstore_spec q3 x0 x1 (by simp only [List.length_append]; unfold cE; omega) fun w4 O4 q4 G4 => hK w4 O4 ?_ ((G2.trans G3).trans G4)
    simp only [List.append_assoc] at q4 ⊢
    exact q4
  · rw [hk]
    repeat (first | rw [if_pos (by decide)] | rw [if_neg (by decide)] | dsimp only)
    refine ldI b2 (m := (ndAt P.ns x).kind) rfl (ldI b2 (m := (ndAt P.ns x).a) rfl (ldI b2 (m := (ndAt P.ns x).b) rfl (ldI b2 (m := (ndAt P.ns x).c) rfl (ldI b2 (m := (ndAt P.ns x).next) rfl (ldI b2 (m := (ndAt P.ns x).val) rfl (ldI b2 (m := (ndAt P.ns x).pos) rfl (ldStr b2 (m := (ndAt P.ns x).name) rfl ?_)))))))
    exact gassign good hv hk q2 hc hh fun w4 O4 q4 G4 => hK w4 O4 q4 (G2.trans G4)
  · rw [hk]
    obtain ⟨ia, ib, ic⟩ := nk.f5 hk
    have va := ia.ve x1
    have la := ia.2.1
    have a0 := va.1
    have lb := ib.2.1
    have vb : 0 ≤ (ndAt P.ns x).b ∧ (ndAt P.ns x).b < P.ns.length ∧ (ndAt P.ns (ndAt P.ns x).b).kind = 2 := ⟨ib.1, by omega, ib.2.2⟩
    have b0 := vb.1
    repeat (first | rw [if_pos (by decide)] | rw [if_neg (by decide)] | dsimp only)
    have hlen : (sX P.ns P.st.ty P.st.ref (ndAt P.ns x).a L.length).length + 3 + (cB P n (ndAt P.ns x).b (L.length + (sX P.ns P.st.ty P.st.ref (ndAt P.ns x).a L.length).length + 3)).length ≤ (cS P (n + 1) x L.length).length := by
      by_cases hcc : (ndAt P.ns x).c < 0
      · unfold cS; rw [sS_5a hk hcc]; simp only [List.length_append, jmpS_len]; unfold cB cS; omega
      · unfold cS; rw [sS_5b hk hcc]; simp only [List.length_append, jmpS_len]; unfold cB cS; omega
    unfold sX at hlen
    refine ldI b2 (m := (ndAt P.ns x).a) rfl ?_
    refine gexpr_spec (n := P.ns.length) good q2 va (by omega) (by unfold cE; omega) (by omega) fun w3 O3 q3 G3 => ?_
    obtain ⟨b3, hp3⟩ := keepB b2 hpo G3
    refine gahead (o := 22) q3 (by omega) (by simp only [List.length_append]; unfold cE; omega) (by omega) fun w4 O4 q4 G4 => ?_
    obtain ⟨b4, hp4⟩ := keepB b3 hp3 G4
    generalize hA : cE P P.ns.length (ndAt P.ns x).a L.length = A at *
    have hA' : sE P.ns P.st.ty P.st.ref P.ns.length (ndAt P.ns x).a L.length = A := hA
    rw [hA'] at hlen
    have lA : (L ++ A).length = L.length + A.length := List.length_append
    refine ldI b4 (m := (ndAt P.ns x).b) rfl ?_
    refine recB (n := n) q4 vb (by omega) (by omega) (by rw [len3, lA]; omega) (by simp only [List.length_append, List.length_singleton]; omega) fun w5 O5 q5 G5 => ?_
    obtain ⟨b5, hp5⟩ := keepB b4 hp4 G5
    rw [len3, lA] at q5
    refine ldI b5 (m := (ndAt P.ns x).c) rfl ?_
    have G5' := ((G2.trans G3).trans G4).trans G5
    by_cases hcc : (ndAt P.ns x).c < 0
    · rw [if_neg (by simp only [decide_eq_true_eq]; omega)]
      unfold cS at hc hK
      rw [sS_5a hk hcc] at hc hK
      unfold sX at hc hK
      rw [hA'] at hc hK
      simp only [List.length_append, jmpS_len] at hc
      have q5 : GM w5 g ck m P (L ++ A ++ byS [22, 0, 0] ++ cB P n (ndAt P.ns x).b (L.length + A.length + 3)) (hs ++ [(((L ++ A).length + 1 : Nat) : Int)]) en O5 := by rw [lA]; exact q5
      refine gland (o := 22) (A := L ++ A) (B := cB P n (ndAt P.ns x).b (L.length + A.length + 3)) (hs := hs) q5 (by rw [lA]; unfold cB cS at *; omega) (by omega) fun w6 O6 q6 G6 => hK w6 O6 ?_ (G5'.trans G6)
      rw [lA] at q6
      simp only [List.append_assoc] at q6 ⊢
      exact q6
    · rw [if_pos (by simp only [decide_eq_true_eq]; omega)]
      have ic := ic.resolve_left (by omega)
      have lc := ic.2.1
      have vc : 0 ≤ (ndAt P.ns x).c ∧ (ndAt P.ns x).c < P.ns.length ∧ (ndAt P.ns (ndAt P.ns x).c).kind = 2 := ⟨ic.1, by omega, ic.2.2⟩
      unfold cS at hc hK
      rw [sS_5b hk hcc] at hc hK
      unfold sX at hc hK
      rw [hA'] at hc hK
      simp only [List.length_append, jmpS_len] at hc
      generalize hB : cB P n (ndAt P.ns x).b (L.length + A.length + 3) = B at *
      have hB' : blkS P.ns (sS P.ns P.st.ty P.st.ref n) (ndAt P.ns x).b (L.length + A.length + 3) = B := hB
      rw [hB'] at hc
      simp only [hB'] at hK
      have q5 : GM w5 g ck m P (L ++ A ++ byS [22, 0, 0] ++ B) (hs ++ [(((L ++ A).length + 1 : Nat) : Int)]) en O5 := by rw [lA]; exact q5
      refine gover (o := 22) (A := L ++ A) (B := B) (hs := hs) q5 (by rw [lA]; omega) (by omega) fun w6 O6 q6 G6 => ?_
      obtain ⟨b6, hp6⟩ := keepB b5 hp5 G6
      rw [lA] at q6
      have l6 : (L ++ A ++ jmpS 22 (L.length + A.length + 3 + B.length + 3) ++ B).length = L.length + A.length + 3 + B.length := by simp only [List.length_append, jmpS_len]
      refine ldI b6 (m := (ndAt P.ns x).c) rfl ?_
      refine recB (n := n) q6 vc (by omega) (by omega) (by rw [len3, l6]; unfold cB cS; omega) (by simp only [List.length_append, List.length_singleton]; omega) fun w7 O7 q7 G7 => ?_
      rw [len3, l6] at q7
      have q7 : GM w7 g ck m P (L ++ A ++ jmpS 22 (L.length + A.length + 3 + B.length + 3) ++ B ++ byS [21, 0, 0] ++ cB P n (ndAt P.ns x).c (L.length + A.length + 3 + B.length + 3)) (hs ++ [(((L ++ A ++ jmpS 22 (L.length + A.length + 3 + B.length + 3) ++ B).length + 1 : Nat) : Int)]) en O7 := by rw [l6]; exact q7
      refine gland (o := 21) (A := L ++ A ++ jmpS 22 (L.length + A.length + 3 + B.length + 3) ++ B) (hs := hs) q7 (by rw [l6]; unfold cB cS; omega) (by omega) fun w8 O8 q8 G8 => hK w8 O8 ?_ (((G5'.trans G6).trans G7).trans G8)
      rw [l6] at q8
      simp only [List.append_assoc] at q8 ⊢
      exact q8
  · rw [hk]
    obtain ⟨ia, ib⟩ := nk.f6 hk
    have va := ia.ve x1
    have la := ia.2.1
    have a0 := va.1
    have lb := ib.2.1
    have vb : 0 ≤ (ndAt P.ns x).b ∧ (ndAt P.ns x).b < P.ns.length ∧ (ndAt P.ns (ndAt P.ns x).b).kind = 2 := ⟨ib.1, by omega, ib.2.2⟩
    have b0 := vb.1
    repeat (first | rw [if_pos (by decide)] | rw [if_neg (by decide)] | dsimp only)
    unfold cS at hc hK
    rw [sS_6 hk] at hc hK
    unfold sX at hc hK
    simp only [List.length_append, jmpS_len] at hc
    refine here_spec q2 ?_
    rw [List.length_map]
    refine ldI b2 (m := (ndAt P.ns x).a) rfl ?_
    refine gexpr_spec (n := P.ns.length) good q2 va (by omega) (by unfold cE; omega) (by omega) fun w3 O3 q3 G3 => ?_
    obtain ⟨b3, hp3⟩ := keepB b2 hpo G3
    refine gahead (o := 22) q3 (by omega) (by simp only [List.length_append]; unfold cE; omega) (by omega) fun w4 O4 q4 G4 => ?_
    obtain ⟨b4, hp4⟩ := keepB b3 hp3 G4
    generalize hA : cE P P.ns.length (ndAt P.ns x).a L.length = A at *
    have hA' : sE P.ns P.st.ty P.st.ref P.ns.length (ndAt P.ns x).a L.length = A := hA
    rw [hA'] at hc hK
    have lA : (L ++ A).length = L.length + A.length := List.length_append
    generalize hB : cB P n (ndAt P.ns x).b (L.length + A.length + 3) = B at *
    have hB' : blkS P.ns (sS P.ns P.st.ty P.st.ref n) (ndAt P.ns x).b (L.length + A.length + 3) = B := hB
    rw [hB'] at hc
    simp only [hB'] at hK
    refine ldI b4 (m := (ndAt P.ns x).b) rfl ?_
    refine recB (n := n) q4 vb (by omega) (by omega) (by rw [len3, lA, hB]; omega) (by simp only [List.length_append, List.length_singleton]; omega) fun w5 O5 q5 G5 => ?_
    rw [len3, lA, hB] at q5
    refine gback (o := 21) q5 (by omega) (by rw [List.length_append, len3, lA]; omega) fun w6 O6 q6 G6 => ?_
    rw [List.append_assoc (L ++ A ++ byS [22, 0, 0])] at q6
    have q6 : GM w6 g ck m P (L ++ A ++ byS [22, 0, 0] ++ (B ++ jmpS 21 L.length)) (hs ++ [(((L ++ A).length + 1 : Nat) : Int)]) en O6 := by rw [lA]; exact q6
    refine gland (o := 22) (A := L ++ A) (B := B ++ jmpS 21 L.length) (hs := hs) q6 (by rw [lA, List.length_append, jmpS_len]; omega) (by omega) fun w7 O7 q7 G7 => hK w7 O7 ?_ (((((G2.trans G3).trans G4).trans G5).trans G6).trans G7)
    rw [lA, List.length_append, jmpS_len] at q7
    simp only [List.append_assoc, Nat.add_assoc] at q7 ⊢
    exact q7
  · rw [hk]
    unfold cS at hc hK
    rw [sS_7 hk] at hc hK
    unfold sX at hc hK
    simp only [List.length_append, byS_len, List.length_cons, List.length_nil] at hc
    have ia := nk.f7 (.inl hk)
    have va := ia.ve x1
    have la := ia.2.1
    have a0 := va.1
    repeat (first | rw [if_pos (by decide)] | rw [if_neg (by decide)] | dsimp only)
    refine ldI b2 (m := (ndAt P.ns x).a) rfl ?_
    refine gexpr_spec (n := P.ns.length) good q2 va (by omega) (by unfold cE; omega) (by omega) fun w3 O3 q3 G3 => drew_ ?_
    obtain ⟨b3, hp3⟩ := keepB b2 hpo G3
    have q3 : GM w3.drew g ck m P _ hs en O3 := GQ.drew q3
    have ty := q3.ty (x := (ndAt P.ns x).a) va.1 va.2.1 (K := fun x_27 => S.gen_class x_27 26 27 w3.drew (fun r28 w => S.gen_Engine_op g r28 w (fun w => K w))) ?_
    · obtain ⟨sT, t1, t2⟩ := ty
      exact ⟨sT, t1, ldI b3.drew (m := (ndAt P.ns x).a) rfl t2⟩
    refine gclass_spec (i := 26) (r := 27) (gop q3 (cls_lt (by omega) (by omega)) (by simp only [List.length_append]; unfold cE; omega) fun w7 O7 q7 G7 => hK w7 O7 ?_ ((G2.trans G3.drew).trans G7))
    simp only [List.append_assoc] at q7 ⊢
    exact q7
  · rw [hk]
    unfold cS at hc hK
    rw [sS_8 hk] at hc hK
    unfold sX at hc hK
    simp only [List.length_append, byS_len, List.length_cons, List.length_nil] at hc
    have ia := nk.f7 (.inr (.inl hk))
    have va := ia.ve x1
    have la := ia.2.1
    have a0 := va.1
    repeat (first | rw [if_pos (by decide)] | rw [if_neg (by decide)] | dsimp only)
    refine ldI b2 (m := (ndAt P.ns x).a) rfl ?_
    refine gexpr_spec (n := P.ns.length) good q2 va (by omega) (by unfold cE; omega) (by omega) fun w3 O3 q3 G3 => ?_
    refine gop (o := 35) q3 (by omega) (by simp only [List.length_append]; unfold cE; omega) fun w7 O7 q7 G7 => hK w7 O7 ?_ ((G2.trans G3).trans G7)
    simp only [List.append_assoc] at q7 ⊢
    exact q7
  · rw [hk]
    unfold cS at hc hK
    rw [sS_9 hk] at hc hK
    unfold sX at hc hK
    simp only [List.length_append, byS_len, List.length_cons, List.length_nil] at hc
    have ia := nk.f7 (.inr (.inr hk))
    have va := ia.ve x1
    have la := ia.2.1
    have a0 := va.1
    repeat (first | rw [if_pos (by decide)] | rw [if_neg (by decide)] | dsimp only)
    refine ldI b2 (m := (ndAt P.ns x).a) rfl ?_
    refine gexpr_spec (n := P.ns.length) good q2 va (by omega) (by unfold cE; omega) (by omega) fun w3 O3 q3 G3 => drew_ ?_
    obtain ⟨b3, hp3⟩ := keepB b2 hpo G3
    have q3 : GM w3.drew g ck m P _ hs en O3 := GQ.drew q3
    have ty := q3.ty (x := (ndAt P.ns x).a) va.1 va.2.1 (K := fun x_27 => S.gen_class x_27 1 6 w3.drew (fun r28 w => S.gen_Engine_op g r28 w (fun w => K w))) ?_
    · obtain ⟨sT, t1, t2⟩ := ty
      exact ⟨sT, t1, ldI b3.drew (m := (ndAt P.ns x).a) rfl t2⟩
    refine gclass_spec (i := 1) (r := 6) (gop q3 (cls_lt (by omega) (by omega)) (by simp only [List.length_append]; unfold cE; omega) fun w7 O7 q7 G7 => hK w7 O7 ?_ ((G2.trans G3.drew).trans G7))
    simp only [List.append_assoc] at q7 ⊢
    exact q7
theorem gblock_spec {n : Nat} {K : World → Prop} (good : Good 0 P.ns) (q : GM w g ck m P L hs en O) (hv : 0 ≤ x ∧ x < P.ns.length ∧ (ndAt P.ns x).kind = 2) (hn : x ≤ ((n : Nat) : Int)) (hc : L.length + (cB P n x L.length).length ≤ 60000) (hh : hs.length + x.toNat ≤ 5000)
    (hK : ∀ w' O', GM w' g ck m P (L ++ cB P n x L.length) hs en O' → Gw O w O' w' → K w') : S.gen_Engine_block g x w K :=
  ⟨PBk ck m P en, PSt ck m P en, ⟨fun _ _ _ _ _ h => block_body good h, fun _ _ _ _ _ h => stmt_body good h⟩, _, n, L, hs, O, rfl, hv, hn, q, hc, hh, hK⟩
end Go.Proofs.Qxb6500562aGreat
