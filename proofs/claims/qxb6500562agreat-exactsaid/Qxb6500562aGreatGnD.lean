/-
  The code generator: expressions.
-/
import Derived.Test.Qxb6500562aGreatGnC
namespace Go.Proofs.Qxb6500562aGreat
open Go.Den Go.Zip
set_option linter.unusedVariables false
set_option linter.unusedSimpArgs false
section
variable {ns : List Nd} {T R : List Int} {n p : Nat} {x : Int}
theorem sE_num (hk : (ndAt ns x).kind = 10 ∨ (ndAt ns x).kind = 11) : sE ns T R (n + 1) x p = numS (ndAt ns x).val := by unfold sE; rw [if_pos hk]
theorem sE_12 (hk : (ndAt ns x).kind = 12) : sE ns T R (n + 1) x p = byS [cls (gI T x) 2 4, b8 (gI R x)] := by
  conv => lhs; unfold sE
  simp [hk]
theorem sE_17 (hk : (ndAt ns x).kind = 17) : sE ns T R (n + 1) x p = byS [36] := by
  conv => lhs; unfold sE
  simp [hk]
theorem sE_19 (hk : (ndAt ns x).kind = 19) : sE ns T R (n + 1) x p = sE ns T R n (ndAt ns x).a p ++ byS [if (ndAt ns x).val = 39 then 14 else 13] := by
  conv => lhs; unfold sE
  simp [hk]
theorem sE_37 (hk : (ndAt ns x).kind = 18) (hv : (ndAt ns x).val = 37) : sE ns T R (n + 1) x p = sE ns T R n (ndAt ns x).a p ++ shortS (sE ns T R n (ndAt ns x).b) 22 0 (p + (sE ns T R n (ndAt ns x).a p).length) := by
  conv => lhs; unfold sE
  simp [hk, hv]
theorem sE_38 (hk : (ndAt ns x).kind = 18) (hv : (ndAt ns x).val = 38) : sE ns T R (n + 1) x p = sE ns T R n (ndAt ns x).a p ++ shortS (sE ns T R n (ndAt ns x).b) 23 1 (p + (sE ns T R n (ndAt ns x).a p).length) := by
  conv => lhs; unfold sE
  simp [hk, hv]
theorem sE_18 (hk : (ndAt ns x).kind = 18) (h1 : (ndAt ns x).val ≠ 37) (h2 : (ndAt ns x).val ≠ 38) : sE ns T R (n + 1) x p = sE ns T R n (ndAt ns x).a p ++ sE ns T R n (ndAt ns x).b (p + (sE ns T R n (ndAt ns x).a p).length) ++ byS [binO (ndAt ns x).val] := by
  conv => lhs; unfold sE
  simp [hk, h1, h2]
theorem sE_14 (hk : (ndAt ns x).kind = 14) : sE ns T R (n + 1) x p = sE ns T R n (ndAt ns x).a p ++ sE ns T R n (ndAt ns x).b (p + (sE ns T R n (ndAt ns x).a p).length) ++ byS [cls (gI T x) 30 31] := by
  conv => lhs; unfold sE
  simp [hk]
theorem sE_15 (hk : (ndAt ns x).kind = 15) : sE ns T R (n + 1) x p = sE ns T R n (ndAt ns x).a p ++ byS [cls (W ((ndAt ns x).val - 2)) 28 29] := by
  conv => lhs; unfold sE
  simp [hk]
theorem sE_16 (hk : (ndAt ns x).kind = 16) : sE ns T R (n + 1) x p = sE ns T R n (ndAt ns x).a p ++ byS [34] := by
  conv => lhs; unfold sE
  simp [hk]
theorem sE_13 (hk : (ndAt ns x).kind = 13) : sE ns T R (n + 1) x p = rowS (sE ns T R n) (kids ns (ndAt ns x).a) p ++ [.inl 24, .inr (gI R x, false), .inr (gI R x, true)] := by
  conv => lhs; unfold sE
  simp [hk]
end
theorem rowS_app (f : Int → Nat → List Sym) : ∀ (l l' : List Int) (p : Nat), rowS f (l ++ l') p = rowS f l p ++ rowS f l' (p + (rowS f l p).length)
  | [], l', p => by simp [rowS]
  | a :: l, l', p => by
    simp only [List.cons_append, rowS]
    rw [rowS_app f l l', List.append_assoc, List.length_append, Nat.add_assoc]
variable {w w' : World} {g : Nat} {P : Prg} {O O' : Nat → Prop} {hs en : List Int} {ck m : Nat} {L : List Sym} {x : Int}
def VE (ns : List Nd) (x : Int) : Prop := 0 ≤ x ∧ x < ns.length ∧ 10 ≤ (ndAt ns x).kind ∧ (ndAt ns x).kind ≤ 19
abbrev cE (P : Prg) := sE P.ns P.st.ty P.st.ref
def PE (ck m : Nat) (P : Prg) (en : List Int) (rk : Nat) (g : Nat) (x : Int) (w : World) (K : World → Prop) : Prop :=
  ∃ n L hs O, rk = 4 * x.toNat + 2 ∧ VE P.ns x ∧ x < ((n : Nat) : Int) ∧ GM w g ck m P L hs en O ∧ L.length + (cE P n x L.length).length ≤ 60000 ∧ hs.length + x.toNat ≤ 5000 ∧ ∀ w' O', GM w' g ck m P (L ++ cE P n x L.length) hs en O' → Gw O w O' w' → K w'
def PBn (ck m : Nat) (P : Prg) (en : List Int) (rk : Nat) (g : Nat) (k a b c nx v ps : Int) (nm : ByteArray) (w : World) (K : World → Prop) : Prop :=
  ∃ n x L hs O, rk = 4 * x.toNat + 1 ∧ VE P.ns x ∧ x < ((n + 1 : Nat) : Int) ∧ (ndAt P.ns x).kind = 18 ∧ a = (ndAt P.ns x).a ∧ b = (ndAt P.ns x).b ∧ v = (ndAt P.ns x).val ∧ GM w g ck m P L hs en O ∧ L.length + (cE P (n + 1) x L.length).length ≤ 60000 ∧ hs.length + x.toNat ≤ 5000 ∧ ∀ w' O', GM w' g ck m P (L ++ cE P (n + 1) x L.length) hs en O' → Gw O w O' w' → K w'
def PSh (ck m : Nat) (P : Prg) (en : List Int) (rk : Nat) (g : Nat) (b o v : Int) (w : World) (K : World → Prop) : Prop :=
  ∃ n L hs O, ∃ on : Nat, o = on ∧ on < 256 ∧ rk = 4 * b.toNat + 3 ∧ VE P.ns b ∧ b < ((n : Nat) : Int) ∧ GM w g ck m P L hs en O ∧ L.length + (shortS (cE P n b) on v L.length).length ≤ 60000 ∧ hs.length + 1 + b.toNat ≤ 5000 ∧ ∀ w' O', GM w' g ck m P (L ++ shortS (cE P n b) on v L.length) hs en O' → Gw O w O' w' → K w'
theorem isE.ve {ns : List Nd} {y : Int} (h : isE ns 0 x y) (hx : x < ns.length) : VE ns y := ⟨h.1, by have := h.2.1; omega, h.2.2.1, h.2.2.2⟩
theorem recE {rk n : Nat} {K : World → Prop} (q : GM w g ck m P L hs en O) (hy : VE P.ns x) (hr : 4 * x.toNat + 2 < rk) (hn : x < ((n : Nat) : Int)) (hc : L.length + (cE P n x L.length).length ≤ 60000) (hh : hs.length + x.toNat ≤ 5000)
    (hK : ∀ w' O', GM w' g ck m P (L ++ cE P n x L.length) hs en O' → Gw O w O' w' → K w') : ∃ m', m' < rk ∧ PE ck m P en m' g x w K := ⟨_, hr, n, L, hs, O, rfl, hy, hn, q, hc, hh, hK⟩
theorem shortS_len (f : Nat → List Sym) (o : Nat) (v : Int) (p : Nat) : (shortS f o v p).length = (f (p + 3)).length + 15 := by
  unfold shortS
  simp only [List.length_append, jmpS_len, numS_len]
  omega
theorem gshort {rk n o : Nat} {b v : Int} {K : World → Prop} {Re : Nat → Int → World → (World → Prop) → Prop} {Rb Rs} (q : GM w g ck m P L hs en O) (ho : o < 256) (hc : L.length + (shortS (cE P n b) o v L.length).length ≤ 60000) (hh : hs.length + 1 + b.toNat ≤ 5000)
    (hRe : ∀ L hs O w K, GM w g ck m P L hs en O → L.length + (cE P n b L.length).length ≤ 60000 → hs.length + b.toNat ≤ 5000 → (∀ w' O', GM w' g ck m P (L ++ cE P n b L.length) hs en O' → Gw O w O' w' → K w') → Re g b w K)
    (hK : ∀ w' O', GM w' g ck m P (L ++ shortS (cE P n b) o v L.length) hs en O' → Gw O w O' w' → K w') : B.gen_Engine_short Re Rb Rs g b (o : Nat) v w K := by
  unfold B.gen_Engine_short
  have hl := shortS_len (cE P n b) o v L.length
  have eL : ∀ z, (L ++ byS [o, 0, 0] ++ z).length = L.length + 3 + z.length := fun z => by simp only [List.length_append, byS_len, List.length_cons, List.length_nil]
  have eL0 : (L ++ byS [o, 0, 0]).length = L.length + 3 := by simp only [List.length_append, byS_len, List.length_cons, List.length_nil]
  refine gahead q ho (by omega) (by omega) fun w1 O1 q1 G1 => ?_
  refine hRe _ _ _ _ _ q1 (by rw [eL0]; omega) (by simp only [List.length_append, List.length_singleton]; omega) fun w2 O2 q2 G2 => ?_
  rw [eL0] at q2
  generalize hB : cE P n b (L.length + 3) = B at *
  refine gover q2 (by omega) (by omega) fun w3 O3 q3 G3 => ?_
  have e3 : (L ++ jmpS o (L.length + 3 + B.length + 3) ++ B).length = L.length + 3 + B.length := by simp only [List.length_append, jmpS_len]
  refine gnum q3 (by rw [List.length_append, e3]; simp only [byS_len, List.length_cons, List.length_nil]; omega) fun w4 O4 q4 G4 => ?_
  have q4 : GM w4 g ck m P (L ++ jmpS o (L.length + 3 + B.length + 3) ++ B ++ byS [21, 0, 0] ++ numS v) (hs ++ [(((L ++ jmpS o (L.length + 3 + B.length + 3) ++ B).length + 1 : Nat) : Int)]) en O4 := by rw [e3]; exact q4
  refine gland (A := L ++ jmpS o (L.length + 3 + B.length + 3) ++ B) (B := numS v) q4 (by rw [e3, numS_len]; omega) (by omega) fun w5 O5 q5 G5 => hK w5 O5 ?_ ((((G1.trans G2).trans G3).trans G4).trans G5)
  have ef : shortS (cE P n b) o v L.length = jmpS o (L.length + 3 + B.length + 3) ++ B ++ jmpS 21 (L.length + 3 + B.length + 3 + 9) ++ numS v := by
    unfold shortS; rw [hB]
  rw [ef]
  rw [e3, numS_len] at q5
  have e6 : L.length + 3 + B.length + 3 + 9 = L.length + 3 + B.length + 3 + 9 := rfl
  simp only [List.append_assoc] at q5 ⊢
  exact q5
theorem short_body {rk : Nat} {b o v : Int} {K : World → Prop} (h : PSh ck m P en rk g b o v w K) :
    B.gen_Engine_short (fun x0 x1 w K => ∃ m', m' < rk ∧ PE ck m P en m' x0 x1 w K) (fun x0 x1 x2 x3 x4 x5 x6 x7 x8 w K => ∃ m', m' < rk ∧ PBn ck m P en m' x0 x1 x2 x3 x4 x5 x6 x7 x8 w K) (fun x0 x1 x2 x3 w K => ∃ m', m' < rk ∧ PSh ck m P en m' x0 x1 x2 x3 w K) g b o v w K := by
  obtain ⟨n, L, hs, O, on, rfl, h0, h1, h2, h3, h4, h5, h6, h7⟩ := h
  exact gshort (rk := rk) h4 h0 h5 h6 (fun L hs O w K a1 a2 a3 a4 => recE a1 h2 (by omega) h3 a2 a3 a4) h7
theorem bin_body {rk : Nat} {k a b c nx v ps : Int} {nm : ByteArray} {K : World → Prop} (good : Good 0 P.ns) (h : PBn ck m P en rk g k a b c nx v ps nm w K) :
    B.gen_Engine_binary (fun x0 x1 w K => ∃ m', m' < rk ∧ PE ck m P en m' x0 x1 w K) (fun x0 x1 x2 x3 x4 x5 x6 x7 x8 w K => ∃ m', m' < rk ∧ PBn ck m P en m' x0 x1 x2 x3 x4 x5 x6 x7 x8 w K) (fun x0 x1 x2 x3 w K => ∃ m', m' < rk ∧ PSh ck m P en m' x0 x1 x2 x3 w K) g k a b c nx v ps nm w K := by
  obtain ⟨n, x, L, hs, O, rfl, hv, hn, hk, rfl, rfl, rfl, q, hc, hh, hK⟩ := h
  unfold B.gen_Engine_binary
  have f18 := (good x hv.1 hv.2.1).1.f18 hk
  have va := f18.1.ve hv.2.1
  have vb := f18.2.1.ve hv.2.1
  have la := f18.1.2.1
  have lb := f18.2.1.2.1
  have a0 := va.1
  have b0 := vb.1
  refine newB fun w1 c1 f1 s1 => ?_
  have q1 := q.fr0 f1
  have hp : ¬ O w.heap.size := fun h => by have := q.lt h; omega
  refine ldI c1 (m := (ndAt P.ns x).a) rfl ?_
  have hA : (cE P n (ndAt P.ns x).a L.length).length ≤ (cE P (n + 1) x L.length).length := by
    by_cases v1 : (ndAt P.ns x).val = 37
    · unfold cE; rw [sE_37 hk v1, List.length_append]; omega
    · by_cases v2 : (ndAt P.ns x).val = 38
      · unfold cE; rw [sE_38 hk v2, List.length_append]; omega
      · unfold cE; rw [sE_18 hk v1 v2, List.length_append, List.length_append]; omega
  refine recE (n := n) q1 va (by omega) (by omega) (by omega) (by omega) fun w2 O2 q2 G2 => ?_
  obtain ⟨c2, hp2⟩ := keepB c1 hp G2
  refine ldI c2 (m := (ndAt P.ns x).val) rfl ?_
  have G12 : Gw O w O2 w2 := (Gw.new f1).trans G2
  by_cases v1 : (ndAt P.ns x).val = 37
  · rw [if_pos (by simpa using v1)]
    refine ldI c2 (m := (ndAt P.ns x).b) rfl ?_
    unfold cE at hc hK q2
    rw [sE_37 hk v1] at hc hK
    refine ⟨4 * (ndAt P.ns x).b.toNat + 3, by omega, n, _, hs, O2, 22, rfl, by omega, rfl, vb, by omega, q2, ?_, by omega, fun w3 O3 q3 G3 => hK w3 O3 ?_ (G12.trans G3)⟩
    · simp only [List.length_append, shortS_len] at hc ⊢; unfold cE; omega
    · rw [List.length_append, List.append_assoc] at q3
      exact q3
  · rw [if_neg (by simpa using v1)]
    by_cases v2 : (ndAt P.ns x).val = 38
    · rw [if_pos (by simpa using v2)]
      refine ldI c2 (m := (ndAt P.ns x).b) rfl ?_
      unfold cE at hc hK q2
      rw [sE_38 hk v2] at hc hK
      refine ⟨4 * (ndAt P.ns x).b.toNat + 3, by omega, n, _, hs, O2, 23, rfl, by omega, rfl, vb, by omega, q2, ?_, by omega, fun w3 O3 q3 G3 => hK w3 O3 ?_ (G12.trans G3)⟩
      · simp only [List.length_append, shortS_len] at hc ⊢; unfold cE; omega
      · rw [List.length_append, List.append_assoc] at q3
        exact q3
    · rw [if_neg (by simpa using v2)]
      refine ldI c2 (m := (ndAt P.ns x).b) rfl ?_
      unfold cE at hc hK q2
      rw [sE_18 hk v1 v2] at hc hK
      simp only [List.length_append] at hc
      refine recE (n := n) q2 vb (by omega) (by omega) (by simp only [List.length_append]; unfold cE; omega) (by omega) fun w3 O3 q3 G3 => ?_
      obtain ⟨c3, hp3⟩ := keepB c2 hp2 G3
      refine ldI c3 (m := (ndAt P.ns x).val) rfl (binOp_spec ?_)
      simp only [List.length_append] at q3
      refine gop q3 (binO_lt _) (by simp only [List.length_append]; rw [byS_len] at hc; simp only [List.length_cons, List.length_nil] at hc; unfold cE; omega) fun w4 O4 q4 G4 => hK w4 O4 ?_ ((G12.trans G3).trans G4)
      simp only [List.append_assoc] at q4 ⊢
      exact q4
end Go.Proofs.Qxb6500562aGreat
