/-
  The code generator: holes, calls, nodes.
-/
import Derived.Test.Qxb6500562aGreatGnA
namespace Go.Proofs.Qxb6500562aGreat
open Go.Den Go.Zip
set_option linter.unusedVariables false
set_option linter.unusedSimpArgs false
variable {w w' : World} {g : Nat} {f : Nat → Value} {Z : Nat → Sl} {V : Nat → List Value} {k j : Nat} {P : Prg} {b1 b2 b3 b4 : Nat} {O O' : Nat → Prop} {cs : List Nat} {hs en : List Int} {cl : List (Int × Int)} {ck m : Nat}

theorem vG12' {l : List Nat} : fset (vG cs hs cl en) 12 (byts l) = vG l hs cl en := by
  funext j
  unfold fset
  split
  · rename_i h; subst h; simp [vG]
  · rename_i h; simp [vG, h]
/-- A write of one byte of a row of bytes. -/
theorem osStB {s : Sl} {zs : List Nat} {i : Nat} {v : Nat} {K : World → Prop} (h : OS w s (byts zs) 1) (h1 : i < zs.length) (hk : ∀ w', OS w' s (byts (zs.set i v)) 1 → FrP (owns s) w w' → K w') : Ix s.a s.l (i : Nat) fun b o => St1 w ⟨b, o + Int.toNat ((i : Nat) : Int) * 1, none⟩ (.int .u8 (v : Nat)) K := by
  have hl := h.len
  have hz : (byts zs).length = zs.length := by simp [byts]
  rw [hz] at hl
  rcases h with ⟨rfl, e⟩ | ⟨g, a, b, c, junk, d, l⟩
  · have : zs = [] := by simpa [byts] using e
    subst this
    simp at h1
  · refine ix a (by omega) (by omega) ?_
    rw [Nat.zero_add, Nat.mul_one, Int.toNat_natCast]
    refine st1 d (by rw [List.length_append]; omega) fun w' b' f' _ => hk w' (.inr ⟨g, a, by simpa [byts] using hl, c, junk, ?_, ?_⟩) (FrP.of f' fun b h1 h2 => by rw [show b = g by omega]; exact a)
    · rw [List.set_append_left _ _ (by omega), byts_set] at b'
      exact b'
    · rw [← l]; simp [byts]
/-- Buffer j turns in place. -/
theorem GE.inpl {vs : List Value} (e : GE w g ck m P f Z V 0 b1 b2 b3 b4) (h1 : 12 ≤ j) (h2 : j < 16) (o : OS w' (Z j) vs (szG j)) (F : FrP (owns (Z j)) w w') : GE w' g ck m P f Z (fset V j vs) 0 b1 b2 b3 b4 ∧ Gw (gO g Z) w (gO g Z) w' := by
  obtain ⟨x, G⟩ := e.x.turn h1 h2 (.inl rfl) o F fun b hb => .inl hb
  have es : fset Z j (Z j) = Z := by funext t; unfold fset; split <;> simp_all
  rw [es] at x G
  refine ⟨⟨⟨x.rc, fun i i1 i2 _ => e.x.sl i i1 i2 (by omega), x.os, x.og, x.dj⟩, e.t.frp G.1 e.n, e.n, e.p⟩, G⟩
theorem fill_spec {hole to_ : Nat} {K : World → Prop} (q : GQ w g ck m P cs hs cl en O) (hh : hole + 2 ≤ cs.length) (hc : cs.length ≤ 70000) (hK : ∀ w', GQ w' g ck m P ((cs.set hole (to_ % 256)).set (hole + 1) (to_ / 256 % 256)) hs cl en O → Gw O w O w' → K w') : S.gen_Engine_fill g (hole : Nat) (to_ : Nat) w K := by
  unfold S.gen_Engine_fill
  obtain ⟨f, Z, b1, b2, b3, b4, e, rfl⟩ := q
  refine e.ldJ (by omega) (by omega) (by omega) ?_
  have o12 : OS w (Z 12) (byts cs) 1 := e.x.os 12 (by omega) (by omega)
  rw [U8_nat]
  refine osStB o12 (by omega) fun w1 o1 F1 => ?_
  obtain ⟨e1, G1⟩ := e.inpl (j := 12) (by omega) (by omega) o1 F1
  rw [vG12'] at e1
  refine e1.ldJ (by omega) (by omega) (by omega) ?_
  have e8 : Shr .i64 ((to_ : Nat) : Int) 8 = ((to_ / 256 : Nat) : Int) := by
    have := Shr_nat to_ 8 (by omega)
    rw [show ((8 : Nat) : Int) = 8 from rfl] at this
    rw [this]
  rw [e8, U8_nat, W_succ (by omega)]
  refine osStB o1 (by rw [List.length_set]; omega) fun w2 o2 F2 => ?_
  obtain ⟨e2, G2⟩ := e1.inpl (j := 12) (by omega) (by omega) o2 F2
  rw [vG12'] at e2
  exact hK w2 ⟨_, _, _, _, _, _, e2, rfl⟩ (G1.trans G2)
theorem ahead_spec {o : Int} {K : World → Prop} (q : GQ w g ck m P cs hs cl en O) (hc : cs.length + 3 ≤ 70000) (hhs : hs.length ≤ 70000) (hK : ∀ w' O', GQ w' g ck m P (cs ++ [b8 o, 0, 0]) (hs ++ [((cs.length + 1 : Nat) : Int)]) cl en O' → Gw O w O' w' → K w') : S.gen_Engine_ahead g o w K := by
  unfold S.gen_Engine_ahead
  refine op_spec q (by omega) fun w1 O1 q1 G1 => drew_ ?_
  have q1 := q1.drew
  obtain ⟨f, Z, b1, b2, b3, b4, e, rfl⟩ := q1
  refine e.ldJ (by omega) (by omega) (by omega) ?_
  refine here_spec ⟨_, _, _, _, _, _, e, rfl⟩ ⟨held e.x.rc e.x.rc, newB fun w2 c2 f2 s2 => ?_⟩
  have e2 := e.fr0 f2
  refine ⟨held e.x.rc e2.x.rc, ?_⟩
  have hhl := e.hln
  refine e2.x.app (j := 13) (by omega) (by omega) (.inl rfl) c2 (by simp [szG]) (by omega) (by simp [okV]) rfl (by omega) fun s3 w3 x3 G3 => ?_
  have ev : fset (vG (cs ++ [b8 o]) hs cl en) 13 (vG (cs ++ [b8 o]) hs cl en 13 ++ [Value.int .i64 (((cs ++ [b8 o]).length : Nat) : Int)]) = vG (cs ++ [b8 o]) (hs ++ [((cs.length + 1 : Nat) : Int)]) cl en := by
    have e1 : vG (cs ++ [b8 o]) hs cl en 13 ++ [Value.int .i64 (((cs ++ [b8 o]).length : Nat) : Int)] = ints (hs ++ [((cs.length + 1 : Nat) : Int)]) := by simp [vG, ints]
    rw [e1, vG13]
  rw [show (Array.toList #[Value.int .i64 (((cs ++ [b8 o]).length : Nat) : Int)]) = [Value.int .i64 (((cs ++ [b8 o]).length : Nat) : Int)] from rfl, ev] at x3
  have e3 := e2.gw x3 G3
  have es : fset Z 13 s3 13 = s3 := fset_eq _ _ _
  have st := e3.stJ (K := fun w => LdS w ⟨g, 12, none⟩ fun code_6 => S.api_AppendU16 code_6 0 w (fun r7 w => St1 w ⟨g, 12, none⟩ (.slice r7.a r7.l r7.c) fun w => K w)) (by omega) (by omega) fun w4 e4 G4 => ?_
  · rw [es] at st
    exact st
  refine e4.ldJ (by omega) (by omega) (by omega) ?_
  refine u16_spec (v := 0) e4 (.inl rfl) (by simp; omega) fun s5 w5 e5 G5 => ?_
  have es5 : fset (fset Z 13 s3) 12 s5 12 = s5 := fset_eq _ _ _
  have := e5.stC (K := K) fun w6 e6 G6 => hK w6 _ ⟨_, _, _, _, _, _, by
    rw [show [b8 o, 0, 0] = [b8 o] ++ u16B 0 from rfl, ← List.append_assoc]
    exact e6, rfl⟩ ((((((G1.drew).trans (Gw.new f2)).trans G3).trans G4).trans G5).trans G6)
  rw [es5] at this
  exact this
theorem call_spec {fn : Int} {K : World → Prop} (q : GQ w g ck m P cs hs cl en O) (hc : cs.length + 3 ≤ 70000) (hcl : cl.length ≤ 70000) (hK : ∀ w' O', GQ w' g ck m P (cs ++ [24, 0, 0]) hs (cl ++ [(((cs.length + 1 : Nat) : Int), fn)]) en O' → Gw O w O' w' → K w') : S.gen_Engine_call g fn w K := by
  unfold S.gen_Engine_call
  refine op_spec q (by omega) fun w1 O1 q1 G1 => drew_ ?_
  have q1 := q1.drew
  obtain ⟨f, Z, b1, b2, b3, b4, e, rfl⟩ := q1
  refine e.ldJ (by omega) (by omega) (by omega) ?_
  refine here_spec ⟨_, _, _, _, _, _, e, rfl⟩ ⟨held e.x.rc e.x.rc, newB fun w2 c2 f2 s2 => ?_⟩
  have e2 := e.fr0 f2
  refine ⟨held e.x.rc e2.x.rc, ?_⟩
  have hhl : (Z 14).l = cl.length := by
    have := (e.x.os 14 (by omega) (by omega)).len
    have e1 : vG (cs ++ [b8 24]) hs cl en 14 = cl.flatMap prV := rfl
    have e2 : szG 14 = 2 := rfl
    rw [e1, e2, flat_length (c := 2) (fun _ => rfl)] at this
    omega
  refine e2.x.app (j := 14) (by omega) (by omega) (.inl rfl) c2 (by simp [szG]) (by omega) (by simp [okV]) rfl (by omega) fun s3 w3 x3 G3 => ?_
  have ev : fset (vG (cs ++ [b8 24]) hs cl en) 14 (vG (cs ++ [b8 24]) hs cl en 14 ++ [Value.int .i64 (((cs ++ [b8 24]).length : Nat) : Int), Value.int .i64 fn]) = vG (cs ++ [b8 24]) hs (cl ++ [(((cs.length + 1 : Nat) : Int), fn)]) en := by
    have e1 : [Value.int .i64 (((cs ++ [b8 24]).length : Nat) : Int), Value.int .i64 fn] = prV (((cs.length + 1 : Nat) : Int), fn) := by simp [prV]
    rw [e1, vG14]
  rw [show (Array.toList #[Value.int .i64 (((cs ++ [b8 24]).length : Nat) : Int), Value.int .i64 fn]) = [Value.int .i64 (((cs ++ [b8 24]).length : Nat) : Int), Value.int .i64 fn] from rfl, ev] at x3
  have e3 := e2.gw x3 G3
  have es : fset Z 14 s3 14 = s3 := fset_eq _ _ _
  have st := e3.stJ (K := fun w => LdS w ⟨g, 12, none⟩ fun code_6 => S.api_AppendU16 code_6 0 w (fun r7 w => St1 w ⟨g, 12, none⟩ (.slice r7.a r7.l r7.c) fun w => K w)) (by omega) (by omega) fun w4 e4 G4 => ?_
  · rw [es] at st
    exact st
  refine e4.ldJ (by omega) (by omega) (by omega) ?_
  refine u16_spec (v := 0) e4 (.inl rfl) (by simp; omega) fun s5 w5 e5 G5 => ?_
  have es5 : fset (fset Z 14 s3) 12 s5 12 = s5 := fset_eq _ _ _
  have := e5.stC (K := K) fun w6 e6 G6 => hK w6 _ ⟨_, _, _, _, _, _, by
    rw [show [24, 0, 0] = [b8 24] ++ u16B 0 from rfl, ← List.append_assoc]
    exact e6, rfl⟩ ((((((G1.drew).trans (Gw.new f2)).trans G3).trans G4).trans G5).trans G6)
  rw [es5] at this
  exact this
theorem land_spec {hole : Nat} {K : World → Prop} (q : GQ w g ck m P cs (hs ++ [((hole : Nat) : Int)]) cl en O) (hh : hole + 2 ≤ cs.length) (hc : cs.length ≤ 70000) (hhs : hs.length ≤ 70000)
    (hK : ∀ w' O', GQ w' g ck m P ((cs.set hole (cs.length % 256)).set (hole + 1) (cs.length / 256 % 256)) hs cl en O' → Gw O w O' w' → K w') : S.gen_Engine_land g w K := by
  unfold S.gen_Engine_land
  obtain ⟨f, Z, b1, b2, b3, b4, e, rfl⟩ := q
  have hhl := e.hln
  simp only [List.length_append, List.length_singleton] at hhl
  refine e.ldJ (by omega) (by omega) (by omega) ?_
  have ek : W (((Z 13).l : Int) - 1) = ((hs.length : Nat) : Int) := by rw [W_id (by omega) (by omega)]; omega
  rw [ek]
  refine let_ (here_spec ⟨_, _, _, _, _, _, e, rfl⟩ (e.ldJ (by omega) (by omega) (by omega) ?_))
  have o13 : OS w (Z 13) (ints (hs ++ [((hole : Nat) : Int)])) 1 := e.x.os 13 (by omega) (by omega)
  refine osRd o13 (by omega) (by simp only [List.length_append, List.length_singleton]; omega) ?_
  have eg : (hs ++ [((hole : Nat) : Int)]).getD ((hs.length : Nat) : Int).toNat (-1) = (hole : Nat) := by simp
  rw [eg]
  refine fill_spec ⟨_, _, _, _, _, _, e, rfl⟩ hh hc fun w1 q1 G1 => ?_
  obtain ⟨f1, Z1, c1, c2, c3, c4, e1, hO⟩ := q1
  refine e1.ldJ (by omega) (by omega) (by omega) ?_
  have o13 : OS w1 (Z1 13) (ints (hs ++ [((hole : Nat) : Int)])) 1 := e1.x.os 13 (by omega) (by omega)
  refine cutO o13 (n := hs.length) (by simp) fun s2 o2 l2 a2 => ?_
  rw [show (hs ++ [((hole : Nat) : Int)]).take hs.length = hs by simp] at o2
  obtain ⟨x2, G2⟩ := e1.x.turn (j := 13) (by omega) (by omega) (.inl rfl) o2 (FrP.refl _ _) fun b hb => .inl (a2 b hb)
  rw [vG13] at x2
  have e2 := e1.gw x2 G2
  have es : fset Z1 13 s2 13 = s2 := fset_eq _ _ _
  have := e2.stJ (K := K) (by omega) (by omega) fun w3 e3 G3 => hK w3 _ ⟨_, _, _, _, _, _, e3, rfl⟩ (by rw [hO] at G1 ⊢; exact (G1.trans G2).trans G3)
  rw [es] at this
  exact this
theorem over_spec {hole : Nat} {K : World → Prop} (q : GQ w g ck m P cs (hs ++ [((hole : Nat) : Int)]) cl en O) (hh : hole + 2 ≤ cs.length) (hc : cs.length + 3 ≤ 70000) (hhs : hs.length ≤ 70000)
    (hK : ∀ w' O', GQ w' g ck m P ((((cs ++ [21, 0, 0]).set hole ((cs.length + 3) % 256)).set (hole + 1) ((cs.length + 3) / 256 % 256))) (hs ++ [((cs.length + 1 : Nat) : Int)]) cl en O' → Gw O w O' w' → K w') : S.gen_Engine_over g w K := by
  unfold S.gen_Engine_over
  refine op_spec q (by omega) fun w1 O1 q1 G1 => here_spec q1 ?_
  obtain ⟨f, Z, b1, b2, b3, b4, e, rfl⟩ := q1
  refine e.ldJ (by omega) (by omega) (by omega) ?_
  refine u16_spec (v := 0) e (.inl rfl) (by simp; omega) fun s2 w2 e2 G2 => ?_
  have es2 : fset Z 12 s2 12 = s2 := fset_eq _ _ _
  have st := e2.stC (K := fun w => LdS w ⟨g, 13, none⟩ fun holes_4 =>
    Let (W ((holes_4.l : Int) - 1)) fun k_5 => S.gen_Engine_here g w (fun r6 w => LdS w ⟨g, 13, none⟩ fun holes_7 => Ix holes_7.a holes_7.l k_5 fun bb o9 => LdI .i64 w ⟨bb, o9 + Int.toNat k_5 * 1, none⟩ fun x_10 =>
    S.gen_Engine_fill g x_10 r6 w (fun w => LdS w ⟨g, 13, none⟩ fun holes_11 => Ix holes_11.a holes_11.l k_5 fun b12 o13 => St1 w ⟨b12, o13 + Int.toNat k_5 * 1, none⟩ (.int .i64 (((cs ++ [b8 21]).length : Nat) : Int)) fun w => K w))) fun w3 e3 G3 => ?_
  · rw [es2] at st
    exact st
  have hhl := e3.hln
  simp only [List.length_append, List.length_singleton] at hhl
  refine e3.ldJ (by omega) (by omega) (by omega) ?_
  have ek : W (((fset Z 12 s2 13).l : Int) - 1) = ((hs.length : Nat) : Int) := by rw [W_id (by omega) (by omega)]; omega
  rw [ek]
  refine let_ (here_spec ⟨_, _, _, _, _, _, e3, rfl⟩ (e3.ldJ (by omega) (by omega) (by omega) ?_))
  have o13 : OS w3 (fset Z 12 s2 13) (ints (hs ++ [((hole : Nat) : Int)])) 1 := e3.x.os 13 (by omega) (by omega)
  refine osRd o13 (by omega) (by simp only [List.length_append, List.length_singleton]; omega) ?_
  have eg : (hs ++ [((hole : Nat) : Int)]).getD ((hs.length : Nat) : Int).toNat (-1) = (hole : Nat) := by simp
  rw [eg]
  refine fill_spec ⟨_, _, _, _, _, _, e3, rfl⟩ (by simp; omega) (by simp [u16B]; omega) fun w4 q4 G4 => ?_
  obtain ⟨f4, Z4, c1, c2, c3, c4, e4, hO⟩ := q4
  refine e4.ldJ (by omega) (by omega) (by omega) ?_
  have o13 : OS w4 (Z4 13) (ints (hs ++ [((hole : Nat) : Int)])) 1 := e4.x.os 13 (by omega) (by omega)
  refine osSt o13 (by omega) (by simp only [List.length_append, List.length_singleton]; omega) fun w5 o5 F5 => ?_
  obtain ⟨e5, G5⟩ := e4.inpl (j := 13) (by omega) (by omega) o5 F5
  rw [vG13] at e5
  have ec : cs ++ [21, 0, 0] = (cs ++ [b8 21]) ++ u16B 0 := by rw [List.append_assoc]; rfl
  have el : ((cs ++ [b8 21]) ++ u16B 0).length = cs.length + 3 := by simp [u16B]
  have eh : (hs ++ [((hole : Nat) : Int)]).set ((hs.length : Nat) : Int).toNat (((cs ++ [b8 21]).length : Nat) : Int) = hs ++ [((cs.length + 1 : Nat) : Int)] := by simp
  rw [eh, el, ← ec] at e5
  rw [← hO] at G5
  refine hK w5 (gO g Z4) ⟨_, _, _, _, _, _, e5, rfl⟩ ?_
  rw [← hO]
  exact (((G1.trans G2).trans G3).trans G4).trans G5
end Go.Proofs.Qxb6500562aGreat
