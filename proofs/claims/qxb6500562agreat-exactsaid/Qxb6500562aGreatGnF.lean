/-
  The code generator: statements.
-/
import Derived.Test.Qxb6500562aGreatGnE
namespace Go.Proofs.Qxb6500562aGreat
open Go.Den Go.Zip
set_option linter.unusedVariables false
set_option linter.unusedSimpArgs false
section
variable {ns : List Nd} {T R : List Int} {n p : Nat} {x : Int}
theorem sS_3 (hk : (ndAt ns x).kind = 3) : sS ns T R (n + 1) x p = sX ns T R (ndAt ns x).a p ++ byS [cls (ndAt ns x).val 3 5, b8 (gI R x)] := by
  conv => lhs; unfold sS
  simp [hk]
theorem sS_4a (hk : (ndAt ns x).kind = 4) (hl : (ndAt ns (ndAt ns x).a).kind = 12) : sS ns T R (n + 1) x p = sX ns T R (ndAt ns x).b p ++ byS [cls (gI T (ndAt ns x).a) 3 5, b8 (gI R (ndAt ns x).a)] := by
  conv => lhs; unfold sS
  simp [hk, hl]
theorem sS_4b (hk : (ndAt ns x).kind = 4) (hl : (ndAt ns (ndAt ns x).a).kind ≠ 12) : sS ns T R (n + 1) x p = thenS (thenS (sX ns T R (ndAt ns (ndAt ns x).a).a) (sX ns T R (ndAt ns (ndAt ns x).a).b)) (sX ns T R (ndAt ns x).b) p ++ byS [cls (gI T (ndAt ns x).b) 32 33] := by
  conv => lhs; unfold sS
  simp [hk, hl]
theorem sS_5a (hk : (ndAt ns x).kind = 5) (hc : (ndAt ns x).c < 0) : sS ns T R (n + 1) x p = sX ns T R (ndAt ns x).a p ++ (jmpS 22 (p + (sX ns T R (ndAt ns x).a p).length + 3 + (blkS ns (sS ns T R n) (ndAt ns x).b (p + (sX ns T R (ndAt ns x).a p).length + 3)).length) ++ blkS ns (sS ns T R n) (ndAt ns x).b (p + (sX ns T R (ndAt ns x).a p).length + 3)) := by
  conv => lhs; unfold sS
  simp [hk, hc]
theorem sS_5b (hk : (ndAt ns x).kind = 5) (hc : ¬ (ndAt ns x).c < 0) : sS ns T R (n + 1) x p = sX ns T R (ndAt ns x).a p ++ (let q := p + (sX ns T R (ndAt ns x).a p).length + 3
       let B := blkS ns (sS ns T R n) (ndAt ns x).b q
       jmpS 22 (q + B.length + 3) ++ B ++ jmpS 21 (q + B.length + 3 + (blkS ns (sS ns T R n) (ndAt ns x).c (q + B.length + 3)).length) ++ blkS ns (sS ns T R n) (ndAt ns x).c (q + B.length + 3)) := by
  conv => lhs; unfold sS
  rw [if_neg (by omega), if_neg (by omega), if_pos hk]
  simp only [if_neg hc]
theorem sS_6 (hk : (ndAt ns x).kind = 6) : sS ns T R (n + 1) x p = sX ns T R (ndAt ns x).a p ++ (let q := p + (sX ns T R (ndAt ns x).a p).length + 3
       let B := blkS ns (sS ns T R n) (ndAt ns x).b q
       jmpS 22 (q + B.length + 3) ++ B ++ jmpS 21 p) := by
  conv => lhs; unfold sS
  rw [if_neg (by omega), if_neg (by omega), if_neg (by omega), if_pos hk]
theorem sS_7 (hk : (ndAt ns x).kind = 7) : sS ns T R (n + 1) x p = sX ns T R (ndAt ns x).a p ++ byS [cls (gI T (ndAt ns x).a) 26 27] := by
  conv => lhs; unfold sS
  simp [hk]
theorem sS_8 (hk : (ndAt ns x).kind = 8) : sS ns T R (n + 1) x p = sX ns T R (ndAt ns x).a p ++ byS [35] := by
  conv => lhs; unfold sS
  simp [hk]
theorem sS_9 (hk : (ndAt ns x).kind = 9) : sS ns T R (n + 1) x p = sX ns T R (ndAt ns x).a p ++ byS [cls (gI T (ndAt ns x).a) 1 6] := by
  conv => lhs; unfold sS
  simp [hk]
end
variable {w w' : World} {g : Nat} {P : Prg} {O O' : Nat → Prop} {hs en : List Int} {ck m : Nat} {L : List Sym} {x : Int}
def VS (ns : List Nd) (x : Int) : Prop := 0 ≤ x ∧ x < ns.length ∧ 3 ≤ (ndAt ns x).kind ∧ (ndAt ns x).kind ≤ 9
abbrev cS (P : Prg) := sS P.ns P.st.ty P.st.ref
abbrev cX (P : Prg) := sX P.ns P.st.ty P.st.ref
abbrev cB (P : Prg) (n : Nat) := blkS P.ns (cS P n)
def PSt (ck m : Nat) (P : Prg) (en : List Int) (rk : Nat) (g : Nat) (x : Int) (w : World) (K : World → Prop) : Prop :=
  ∃ n L hs O, rk = 2 * x.toNat + 1 ∧ VS P.ns x ∧ x < ((n : Nat) : Int) ∧ GM w g ck m P L hs en O ∧ L.length + (cS P n x L.length).length ≤ 60000 ∧ hs.length + x.toNat ≤ 5000 ∧ ∀ w' O', GM w' g ck m P (L ++ cS P n x L.length) hs en O' → Gw O w O' w' → K w'
def PBk (ck m : Nat) (P : Prg) (en : List Int) (rk : Nat) (g : Nat) (x : Int) (w : World) (K : World → Prop) : Prop :=
  ∃ n L hs O, rk = 2 * x.toNat ∧ (0 ≤ x ∧ x < P.ns.length ∧ (ndAt P.ns x).kind = 2) ∧ x ≤ ((n : Nat) : Int) ∧ GM w g ck m P L hs en O ∧ L.length + (cB P n x L.length).length ≤ 60000 ∧ hs.length + x.toNat ≤ 5000 ∧ ∀ w' O', GM w' g ck m P (L ++ cB P n x L.length) hs en O' → Gw O w O' w' → K w'
theorem block_body {rk : Nat} {K : World → Prop} (good : Good 0 P.ns) (h : PBk ck m P en rk g x w K) :
    B.gen_Engine_block (fun x0 x1 w K => ∃ m', m' < rk ∧ PBk ck m P en m' x0 x1 w K) (fun x0 x1 w K => ∃ m', m' < rk ∧ PSt ck m P en m' x0 x1 w K) g x w K := by
  obtain ⟨n, L, hs, O, rfl, ⟨x0, x1, hk⟩, hn, q, hc, hh, hK⟩ := h
  unfold B.gen_Engine_block
  refine GQ.node q x0 x1 fun w1 q1 F1 => ?_
  have km := kids_st good x0 x1 hk
  have kc := chain_of good x0 x1 (.inr (.inl hk))
  unfold cB blkS at hc hK
  generalize hl : kids P.ns (ndAt P.ns x).a = l at *
  refine loopN (fun k v u => ∃ l1 l2 a O', v = (a, ()) ∧ l = l1 ++ l2 ∧ k = l2.length ∧ Ch P.ns a l2 ∧ GM u g ck m P (L ++ rowS (cS P n) l1 L.length) hs en O' ∧ Gw O w O' u) l.length ⟨[], l, _, O, rfl, rfl, rfl, kc, by have q1 : GM w1 g ck m P L hs en O := q1; simpa [rowS] using q1, Gw.new F1⟩ ?_
  rintro k _ u ⟨l1, l2, a, O3, rfl, hll, rfl, hch, q3, G3⟩ Q hQ
  dsimp only
  cases l2 with
  | nil =>
    have ha : a = -1 := hch
    rw [if_neg (by simp only [decide_eq_true_eq]; omega)]
    rw [List.append_nil] at hll
    subst hll
    exact hK u O3 q3 G3
  | cons y l2 =>
    obtain ⟨rfl, hy0, hch'⟩ := hch
    rw [if_pos (by simp only [decide_eq_true_eq]; omega)]
    have iy := km a (by rw [hll]; simp)
    have ly := iy.2.1
    have vy : VS P.ns a := ⟨iy.1, by omega, iy.2.2.1, iy.2.2.2⟩
    have hlen : (rowS (cS P n) l L.length).length = (rowS (cS P n) l1 L.length).length + (cS P n a (L.length + (rowS (cS P n) l1 L.length).length)).length + (rowS (cS P n) l2 (L.length + (rowS (cS P n) l1 L.length).length + (cS P n a (L.length + (rowS (cS P n) l1 L.length).length)).length)).length := by
      rw [hll, rowS_app, List.length_append]
      simp only [rowS, List.length_append]
      omega
    refine ⟨2 * a.toNat + 1, by omega, n, _, hs, O3, rfl, vy, by omega, q3, by rw [List.length_append]; omega, by omega, fun w4 O4 q4 G4 => ?_⟩
    refine GQ.node q4 vy.1 vy.2.1 fun w5 q5 F5 => ?_
    refine hQ l2.length _ w5 (by simp) ⟨l1 ++ [a], l2, _, O4, rfl, by rw [hll]; simp, rfl, hch', ?_, (G3.trans G4).trans (Gw.new F5)⟩
    have e : L ++ rowS (cS P n) (l1 ++ [a]) L.length = L ++ rowS (cS P n) l1 L.length ++ cS P n a (L ++ rowS (cS P n) l1 L.length).length := by
      rw [rowS_app, List.length_append]
      simp only [rowS, List.append_nil, List.append_assoc]
    rw [e]
    exact q5
theorem gassign {n : Nat} {K : World → Prop} {k c nx ps v : Int} {nm : ByteArray} (good : Good 0 P.ns) (hv : VS P.ns x) (hk : (ndAt P.ns x).kind = 4) (q : GM w g ck m P L hs en O) (hc : L.length + (cS P (n + 1) x L.length).length ≤ 60000) (hh : hs.length + x.toNat ≤ 5000)
    (hK : ∀ w' O', GM w' g ck m P (L ++ cS P (n + 1) x L.length) hs en O' → Gw O w O' w' → K w') : S.gen_Engine_assign g k (ndAt P.ns x).a (ndAt P.ns x).b c nx v ps nm w K := by
  unfold S.gen_Engine_assign
  have nk := (good x hv.1 hv.2.1).1.f4 hk
  have x1 := hv.2.1
  have va := nk.1.ve x1
  have vb := nk.2.2.ve x1
  have la := nk.1.2.1
  have lb := nk.2.2.2.1
  have a0 := va.1
  have b0 := vb.1
  refine newB fun w1 c1 f1 s1 => ?_
  have q1 := q.fr0 f1
  have hp1 : ¬ O w.heap.size := fun h => by have := q.lt h; omega
  refine ldI c1 (m := (ndAt P.ns x).a) rfl ?_
  refine GQ.node q1 va.1 va.2.1 fun w2 q2 F2 => ?_
  refine lay8 (n := ndAt P.ns (ndAt P.ns x).a) fun w3 p b3 hp F3 => ?_
  have q3 : GM w3 g ck m P L hs en O := GM.fr0 q2 F3
  have G3 : Gw O w O w3 := ((Gw.new f1).trans (Gw.new F2)).trans (Gw.new F3)
  have hp3 : ¬ O p := fun h => by have := q.lt h; have := f1.1.1; have := F2.1.1; omega
  obtain ⟨c3, _⟩ := keepB c1 hp1 ((Gw.new F2).trans (Gw.new F3))
  refine ldI b3 (m := (ndAt P.ns (ndAt P.ns x).a).kind) rfl ?_
  by_cases hl : (ndAt P.ns (ndAt P.ns x).a).kind = 12
  · rw [if_pos (by simpa using hl)]
    unfold cS at hc hK
    rw [sS_4a hk hl] at hc hK
    simp only [List.length_append, byS_len, List.length_cons, List.length_nil] at hc
    refine ldI c3 (m := (ndAt P.ns x).b) rfl ?_
    refine gexpr_spec (n := P.ns.length) good q3 vb (by omega) (by unfold cE; unfold sX at hc; omega) (by omega) fun w4 O4 q4 G4 => drew_ ?_
    obtain ⟨c4, _⟩ := keepB c3 hp1 G4
    have q4 : GM w4.drew g ck m P _ hs en O4 := GQ.drew q4
    refine ldI c4.drew (m := (ndAt P.ns x).a) rfl ?_
    have ty := q4.ty (x := (ndAt P.ns x).a) va.1 va.2.1 (K := fun x_19 => S.gen_Engine_store g (ndAt P.ns x).a x_19 w4.drew (fun w => K w)) ?_
    · obtain ⟨sT, t1, t2⟩ := ty
      exact ⟨sT, t1, ldI c4.drew (m := (ndAt P.ns x).a) rfl t2⟩
    refine gstore_spec q4 va.1 va.2.1 (by rw [List.length_append]; unfold cE; unfold sX at hc; omega) fun w5 O5 q5 G5 => hK w5 O5 ?_ ((G3.trans G4.drew).trans G5)
    rw [List.append_assoc] at q5
    exact q5
  · rw [if_neg (by simpa using hl)]
    have hl4 : (ndAt P.ns (ndAt P.ns x).a).kind = 14 := nk.2.1.resolve_left hl
    have nl := (good _ va.1 va.2.1).1.f14 hl4
    have vla := nl.1.ve va.2.1
    have vlb := nl.2.ve va.2.1
    have lla := nl.1.2.1
    have llb := nl.2.2.1
    have la0 := vla.1
    have lb0 := vlb.1
    unfold cS at hc hK
    rw [sS_4b hk hl] at hc hK
    unfold thenS at hc hK
    unfold sX at hc hK
    simp only [List.length_append, byS_len, List.length_cons, List.length_nil] at hc
    refine ldI b3 (m := (ndAt P.ns (ndAt P.ns x).a).a) rfl ?_
    refine gexpr_spec (n := P.ns.length) good q3 vla (by omega) (by unfold cE; omega) (by omega) fun w4 O4 q4 G4 => ?_
    obtain ⟨b4, hp4⟩ := keepB b3 hp3 G4
    obtain ⟨c4, hq4⟩ := keepB c3 hp1 G4
    refine ldI b4 (m := (ndAt P.ns (ndAt P.ns x).a).b) rfl ?_
    refine gexpr_spec (n := P.ns.length) good q4 vlb (by omega) (by simp only [List.length_append]; unfold cE; omega) (by omega) fun w5 O5 q5 G5 => ?_
    obtain ⟨c5, hq5⟩ := keepB c4 hq4 G5
    refine ldI c5 (m := (ndAt P.ns x).b) rfl ?_
    simp only [List.length_append] at q5
    refine gexpr_spec (n := P.ns.length) good q5 vb (by omega) (by simp only [List.length_append]; unfold cE; simp only [Nat.add_assoc] at hc ⊢; omega) (by omega) fun w6 O6 q6 G6 => drew_ ?_
    obtain ⟨c6, hq6⟩ := keepB c5 hq5 G6
    have q6 : GM w6.drew g ck m P _ hs en O6 := GQ.drew q6
    have ty := q6.ty (x := (ndAt P.ns x).b) vb.1 vb.2.1 (K := fun x_27 => S.gen_class x_27 32 33 w6.drew (fun r28 w => S.gen_Engine_op g r28 w (fun w => K w))) ?_
    · obtain ⟨sT, t1, t2⟩ := ty
      exact ⟨sT, t1, ldI c6.drew (m := (ndAt P.ns x).b) rfl t2⟩
    refine gclass_spec (i := 32) (r := 33) (gop q6 (cls_lt (by omega) (by omega)) (by simp only [List.length_append]; unfold cE; simp only [Nat.add_assoc] at hc ⊢; omega) fun w7 O7 q7 G7 => hK w7 O7 ?_ ((((G3.trans G4).trans G5).trans G6.drew).trans G7))
    simp only [List.length_append, List.append_assoc, Nat.add_assoc] at q7 ⊢
    exact q7
end Go.Proofs.Qxb6500562aGreat
