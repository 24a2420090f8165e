/-
  The code generator: compile.
-/
import Derived.Test.Qxb6500562aGreatGnH
namespace Go.Proofs.Qxb6500562aGreat
open Go.Den Go.Zip
set_option linter.unusedVariables false
set_option linter.unusedSimpArgs false
variable {w w' : World} {g : Nat} {P : Prg} {O O' : Nat → Prop} {hs en : List Int} {ck m : Nat} {L : List Sym} {x : Int} {f : Nat → Value} {Z : Nat → Sl} {V : Nat → List Value} {j : Nat}

/-- The engine between two calls. -/
def GZ (w : World) (g ck m : Nat) (O : Nat → Prop) : Prop := ∃ f Z V, GX w g f Z V 0 ∧ Pt f ck m ∧ O = gO g Z
theorem GX.low {v : Value} {K : World → Prop} (x : GX w g f Z V 0) (h : j < 12) (hK : ∀ w', GX w' g (fset f j v) Z V 0 → FrP (gO g Z) w w' → K w') : St1 w ⟨g, j, none⟩ v K := by
  refine st1 x.rc (by simp; omega) fun w' b' f' _ => ?_
  rw [tab_set] at b'
  have F : FrP (fun b => b = g) w w' := FrP.of f' fun b h1 h2 => by omega
  exact hK w' ⟨b', fun i i1 i2 _ => by rw [fset_ne (by omega)]; exact x.sl i i1 i2 (by omega), fun i i1 i2 => (x.os i i1 i2).frp F fun b hb => x.og i i1 i2 b hb, x.og, x.dj⟩ (F.mono fun b hb => .inl hb)
/-- Buffer j is emptied. -/
theorem GE.clear {b1 b2 b3 b4 : Nat} {K : World → Prop} (e : GE w g ck m P f Z V 0 b1 b2 b3 b4) (h1 : 12 ≤ j) (h2 : j < 16)
    (hK : ∀ w' f' Z', GE w' g ck m P f' Z' (fset V j []) 0 b1 b2 b3 b4 → Gw (gO g Z) w (gO g Z') w' → K w') : LdS w ⟨g, j, none⟩ fun s => CutS (szG j) s 0 0 (s.c : Int) fun l => St1 w ⟨g, j, none⟩ (.slice l.a l.l l.c) K := by
  refine e.ldJ h1 h2 (by omega) (cut0 (e.x.os j h1 h2) fun s' o' l' a' => ?_)
  obtain ⟨x', G'⟩ := e.x.turn h1 h2 (.inl rfl) o' (FrP.refl _ _) fun b hb => .inl (by unfold owns at *; rw [← a']; exact hb)
  have e' := e.gw x' G'
  have es : fset Z j s' j = s' := fset_eq _ _ _
  have := e'.stJ (K := K) h1 h2 fun w2 e2 G2 => hK w2 _ _ e2 (G'.trans G2)
  rw [es] at this
  exact this
theorem vG_nil {V : Nat → List Value} (j : Nat) (h1 : 12 ≤ j) (h2 : j < 16) : fset (fset (fset (fset V 12 []) 13 []) 14 []) 15 [] j = vG [] [] [] [] j := by
  rcases (by omega : j = 12 ∨ j = 13 ∨ j = 14 ∨ j = 15) with rfl | rfl | rfl | rfl <;> simp [fset, vG, byts, ints]
theorem GE.congr {V' : Nat → List Value} {b1 b2 b3 b4 k : Nat} (e : GE w g ck m P f Z V k b1 b2 b3 b4) (h : ∀ j, 12 ≤ j → j < 16 → V j = V' j) : GE w g ck m P f Z V' k b1 b2 b3 b4 := ⟨⟨e.x.rc, e.x.sl, fun j h1 h2 => by rw [← h j h1 h2]; exact e.x.os j h1 h2, e.x.og, e.x.dj⟩, e.t, e.n, e.p⟩
theorem setTwo (a b : List Nat) (u0 v0 u v : Nat) : ((a ++ [u0, v0] ++ b).set a.length u).set (a.length + 1) v = a ++ [u, v] ++ b := by
  rw [List.append_assoc, List.set_append_right _ _ (by omega), List.set_append_right _ _ (by omega), List.append_assoc]
  congr 1
  rw [show a.length - a.length = 0 by omega, show a.length + 1 - a.length = 1 by omega]
  rfl
theorem rd14 {q : List (Int × Int)} {i : Nat} {s : Sl} {K : Int → Prop} (h : OS w s (q.flatMap prV) 2) {c : Int × Int} (hi : q[i]? = some c) (hk : K c.1) : Ix s.a s.l (i : Nat) fun b o => LdI .i64 w ⟨b, o + Int.toNat ((i : Nat) : Int) * 2, none⟩ K := by
  have hlt : i < q.length := by
    rcases Nat.lt_or_ge i q.length with h | h
    · exact h
    · simp [h] at hi
  have hl := h.len
  rw [flat_length (c := 2) (fun _ => rfl)] at hl
  rcases h with ⟨rfl, e⟩ | ⟨g, a, b, c', junk, d, l⟩
  · simp at hl; omega
  · refine ix a (by omega) (by omega) (ldI d (m := c.1) ?_ hk)
    rw [Nat.zero_add, Int.toNat_natCast, List.getElem?_append_left (by rw [flat_length (c := 2) (fun _ => rfl)]; omega)]
    have := flat_get (f := prV) (c := 2) (fun _ => rfl) q i 0 (by omega)
    rw [Nat.add_zero] at this
    rw [this, hi]; rfl
theorem rd14' {q : List (Int × Int)} {i : Nat} {s : Sl} {K : Int → Prop} (h : OS w s (q.flatMap prV) 2) {c : Int × Int} (hi : q[i]? = some c) (hk : K c.2) : Ix s.a s.l (i : Nat) fun b o => LdI .i64 w ⟨b, o + Int.toNat ((i : Nat) : Int) * 2 + 1, none⟩ K := by
  have hlt : i < q.length := by
    rcases Nat.lt_or_ge i q.length with h | h
    · exact h
    · simp [h] at hi
  have hl := h.len
  rw [flat_length (c := 2) (fun _ => rfl)] at hl
  rcases h with ⟨rfl, e⟩ | ⟨g, a, b, c', junk, d, l⟩
  · simp at hl; omega
  · refine ix a (by omega) (by omega) (ldI d (m := c.2) ?_ hk)
    rw [Nat.zero_add, Int.toNat_natCast, List.getElem?_append_left (by rw [flat_length (c := 2) (fun _ => rfl)]; omega)]
    have := flat_get (f := prV) (c := 2) (fun _ => rfl) q i 1 (by omega)
    rw [this, hi]; rfl
/-- Where the functions begin. -/
theorem ent_main {ns : List Nd} {T R : List Int} {fs : List Fn} {main : Int} : entA ns T R fs main main = 0 := by unfold entA; rw [if_pos rfl]
/-- The calls, fixed up. -/
theorem fix_spec {en : List Int} {K : World → Prop} {J : World → Prop} (ent : Int → Nat) (hJ : ∀ u O', GQ u g ck m P (L.map (rnd ent)) [] (callsOf 0 L) en O' → Gw O w O' u → J u) (hL : L.length ≤ 60000) (hwf : wfS en.length L) (hen : ∀ k : Int, 0 ≤ k → k < en.length → en.getD k.toNat (-1) = ((ent k : Nat) : Int)) (q : GM w g ck m P L [] en O) :
    LoopP (σ := Int × Unit) (fun st21 w next22 =>
        LdS w ⟨g, 14, none⟩ fun calls_23 =>
        if (decide (st21.1 < (calls_23.l : Int))) = true then
          Drew w fun w =>
          LdS w ⟨g, 14, none⟩ fun calls_24 =>
          Ix calls_24.a calls_24.l st21.1 fun b25 o26 =>
          LdI .i64 w ⟨b25, o26 + Int.toNat st21.1 * 2, none⟩ fun hole_27 =>
          LdS w ⟨g, 15, none⟩ fun entry_28 =>
          LdS w ⟨g, 14, none⟩ fun calls_29 =>
          Ix calls_29.a calls_29.l st21.1 fun b30 o31 =>
          LdI .i64 w ⟨b30, o31 + Int.toNat st21.1 * 2 + 1, none⟩ fun fn_32 =>
          Ix entry_28.a entry_28.l fn_32 fun b33 o34 =>
          LdI .i64 w ⟨b33, o34 + Int.toNat fn_32 * 1, none⟩ fun x_35 =>
          S.gen_Engine_fill g hole_27 x_35 w (fun w =>
          Let (W (st21.1 + 1)) fun k_36 =>
          next22 (k_36, ()) w)
        else
          J w) (0, ()) w := by
  have hcl := calls_len L 0
  refine loopN (fun n v u => ∃ (A B : List Sym) (O' : Nat → Prop), L = A ++ B ∧ wfS en.length B ∧ v = ((((callsOf 0 A).length : Nat) : Int), ()) ∧ n = (callsOf A.length B).length ∧ GQ u g ck m P (A.map (rnd ent) ++ B.map r0) [] (callsOf 0 L) en O' ∧ Gw O w O' u) (callsOf 0 L).length ⟨[], L, O, rfl, hwf, rfl, rfl, q, Gw.refl _ _⟩ ?_
  rintro n _ u ⟨A, B, O', hAB, hB, rfl, rfl, q, G⟩ Q hQ
  dsimp only
  have hcs : callsOf 0 L = callsOf 0 A ++ callsOf A.length B := by rw [hAB, callsOf_app, Nat.zero_add]
  obtain ⟨f, Z, b1, b2, b3, b4, e, rfl⟩ := q
  have l14 : (Z 14).l = (callsOf 0 L).length := by
    have := (e.x.os 14 (by omega) (by omega)).len
    have e1 : vG (A.map (rnd ent) ++ B.map r0) [] (callsOf 0 L) en 14 = (callsOf 0 L).flatMap prV := rfl
    have e2 : szG 14 = 2 := rfl
    rw [e1, e2, flat_length (c := 2) (fun _ => rfl)] at this
    omega
  refine e.ldJ (by omega) (by omega) (by omega) ?_
  rw [l14]
  rcases wf_split ent B A.length hB with ⟨h1, h2⟩ | ⟨c1, k, B', h1, h2, h3, h4, h5⟩
  · rw [if_neg (by simp only [decide_eq_true_eq]; rw [hcs, h1]; simp)]
    refine hJ u _ ⟨f, Z, b1, b2, b3, b4, ?_, rfl⟩ G
    have em : L.map (rnd ent) = A.map (rnd ent) ++ B.map r0 := by rw [hAB, List.map_append, h2]
    rw [em]
    exact e
  · rw [if_pos (by simp only [decide_eq_true_eq]; rw [hcs, h5]; simp only [List.length_append, List.length_cons]; omega)]
    refine drew_ ?_
    have e : GE u.drew g ck m P f Z _ 0 b1 b2 b3 b4 := e.fr0 (Fr.refl 0 0 u).drew
    have hget : (callsOf 0 L)[(callsOf 0 A).length]? = some (((A.length + c1.length : Nat) : Int), k) := by rw [hcs, h5]; simp
    have o14 : OS u.drew (Z 14) ((callsOf 0 L).flatMap prV) 2 := e.x.os 14 (by omega) (by omega)
    have o15 : OS u.drew (Z 15) (ints en) 1 := e.x.os 15 (by omega) (by omega)
    refine e.ldJ (by omega) (by omega) (by omega) (rd14 o14 hget ?_)
    refine e.ldJ (by omega) (by omega) (by omega) (e.ldJ (by omega) (by omega) (by omega) (rd14' o14 hget ?_))
    refine osRd o15 h3 h4 ?_
    rw [hen k h3 h4]
    have lB : B.length = c1.length + 2 + B'.length := by rw [h1]; simp [byS_len]; omega
    have lL : L.length = A.length + B.length := by rw [hAB, List.length_append]
    refine fill_spec ⟨_, _, _, _, _, _, e, rfl⟩ (by simp only [List.length_append, List.length_map]; omega) (by simp only [List.length_append, List.length_map]; omega) fun u2 q2 G2 => let_ ?_
    rw [W_succ (by have := calls_len A 0; omega)]
    refine hQ (callsOf (A.length + c1.length + 2) B').length _ u2 (by rw [h5]; simp) ⟨A ++ byS c1 ++ [.inr (k, false), .inr (k, true)], B', _, by rw [hAB, h1]; simp, h2, ?_, ?_, ?_, G.drew.trans G2⟩
    · congr 2
      rw [callsOf_app, callsOf_app, callsOf_by]
      simp [callsOf]
    · congr 2
      simp [byS_len]; omega
    · have ec : A.map (rnd ent) ++ B.map r0 = (A.map (rnd ent) ++ c1) ++ [0, 0] ++ B'.map r0 := by
        rw [h1, List.map_append, map_by]
        simp [r0, rnd]
      have el : A.length + c1.length = (A.map (rnd ent) ++ c1).length := by simp
      rw [ec, el, setTwo] at q2
      have em : (A ++ byS c1 ++ [Sum.inr (k, false), Sum.inr (k, true)]).map (rnd ent) ++ B'.map r0 = (A.map (rnd ent) ++ c1) ++ [ent k % 256, ent k / 256 % 256] ++ B'.map r0 := by
        rw [List.map_append, List.map_append]
        have : (byS c1).map (rnd ent) = c1 := by
          unfold byS
          rw [List.map_map]
          have : (rnd ent ∘ Sum.inl : Nat → Nat) = id := rfl
          rw [this, List.map_id]
        rw [this]; rfl
      rw [em]
      exact q2
set_option maxHeartbeats 2000000 in
theorem compile_spec {nodes ty ref funcs : Sl} {root terr tpos e0 pos : Int} {K : World → Prop} (z : GZ w g ck m O) (pt : PT P.ns P.st P.main) (hl200 : P.ns.length ≤ 200) {b1 b2 b3 b4 : Nat}
    (h1 : nodes = ⟨some ⟨b1, 0, none⟩, P.ns.length, P.ns.length⟩) (n1 : Blk w b1 (P.ns.flatMap ndV)) (h2 : ty = ⟨some ⟨b2, 0, none⟩, P.ns.length, P.ns.length⟩) (n2 : Blk w b2 (ints P.st.ty))
    (h3 : ref = ⟨some ⟨b3, 0, none⟩, P.ns.length, P.ns.length⟩) (n3 : Blk w b3 (ints P.st.ref)) (h4 : funcs = ⟨some ⟨b4, 0, none⟩, P.st.fs.length, P.st.fs.length⟩) (n4 : Blk w b4 (P.st.fs.flatMap fnV)) (hn : nO O b1 b2 b3 b4)
    (hK : ∀ w' O' en, GQ w' g ck m P (codeP P.ns P.st.ty P.st.ref P.st.fs P.main) [] (callsOf 0 (sAll P.ns P.st.ty P.st.ref P.st.fs P.main)) en O' → Gw O w O' w' → en.length = P.st.fs.length → (∀ k : Int, 0 ≤ k → k < en.length → en.getD k.toNat (-1) = ((entA P.ns P.st.ty P.st.ref P.st.fs P.main k : Nat) : Int)) → K w') :
    S.gen_Engine_compile g nodes root terr tpos ty ref funcs P.main e0 pos w K := by
  subst h1 h2 h3 h4
  have hfl : P.st.fs.length ≤ 200 := by
    have := inc_len pt.up (lo := 0) (hi := P.ns.length) (fun y hy => by
      obtain ⟨f, hf, rfl⟩ := List.mem_map.1 hy
      exact ⟨(pt.nd f hf).1, (pt.nd f hf).2.1⟩) (by omega)
    rw [List.length_map] at this
    omega
  have hall := pt.all_len (T := P.st.ty) (R := P.st.ref)
  obtain ⟨mi, hmi⟩ : ∃ mi : Nat, P.main = mi := ⟨P.main.toNat, by have := pt.mn.1; omega⟩
  have ml : mi < P.st.fs.length := by have := pt.mn.2.1; omega
  unfold S.gen_Engine_compile
  obtain ⟨f, Z, V, x0, pt0, rfl⟩ := z
  refine newB fun w1 c1 f1 s1 => ?_
  have hp : ¬ gO g Z w.heap.size := fun h => by have := x0.lt h; omega
  generalize hpp : w.heap.size = p at *
  have x1 := x0.frp (FrP.of0 (P := fun _ => False) f1) fun _ _ h => h
  refine ldS c1 rfl (ldI c1 rfl (ldI c1 rfl (ldI c1 rfl (ldS c1 rfl (ldS c1 rfl (ldS c1 rfl (ldI c1 rfl (ldI c1 rfl (ldI c1 rfl ?_)))))))))
  refine x1.low (by omega) fun w2 x2 F2 => ?_
  refine x2.low (by omega) fun w3 x3 F3 => ?_
  refine x3.low (by omega) fun w4 x4 F4 => ?_
  refine x4.low (by omega) fun w5 x5 F5 => ?_
  refine x5.low (by omega) fun w6 x6 F6 => ?_
  refine x6.low (by omega) fun w7 x7 F7 => ?_
  refine x7.low (by omega) fun w8 x8 F8 => ?_
  refine x8.low (by omega) fun w9 x9 F9 => ?_
  refine x9.low (by omega) fun w10 x10 F10 => ?_
  refine x10.low (by omega) fun w11 x11 F11 => ?_
  have FF : FrP (gO g Z) w w11 := (FrP.of0 f1).trans (((((((((F2.trans F3).trans F4).trans F5).trans F6).trans F7).trans F8).trans F9).trans F10).trans F11)
  have F1_11 : FrP (gO g Z) w1 w11 := ((((((((F2.trans F3).trans F4).trans F5).trans F6).trans F7).trans F8).trans F9).trans F10).trans F11
  have gt : ∀ {ff : Nat → Value}, ff 2 = .slice (some ⟨b1, 0, none⟩) P.ns.length P.ns.length → ff 6 = .slice (some ⟨b2, 0, none⟩) P.ns.length P.ns.length → ff 7 = .slice (some ⟨b3, 0, none⟩) P.ns.length P.ns.length → ff 8 = .slice (some ⟨b4, 0, none⟩) P.st.fs.length P.st.fs.length → GT w11 ff P b1 b2 b3 b4 := fun q1 q2 q3 q4 =>
    ⟨q1, q2, q3, q4, n1.frp FF hn.1, n2.frp FF hn.2.1, n3.frp FF hn.2.2.1, n4.frp FF hn.2.2.2, pt.tl, pt.rl⟩
  have e11 : GE w11 g ck m P _ Z V 0 b1 b2 b3 b4 := ⟨x11, gt (by simp [fset]) (by simp [fset]) (by simp [fset]) (by simp [fset]), hn, ⟨by simp [fset]; exact pt0.1, by simp [fset]; exact pt0.2⟩⟩
  have G11 : Gw (gO g Z) w (gO g Z) w11 := ⟨FF, fun b hb => .inl hb⟩
  obtain ⟨c11, hp11⟩ := keepB c1 hp (O' := gO g Z) ⟨F1_11, fun b hb => .inl hb⟩
  refine e11.clear (j := 12) (by omega) (by omega) fun w12 f12 Z12 e12 G12 => ?_
  refine e12.clear (j := 13) (by omega) (by omega) fun w13 f13 Z13 e13 G13 => ?_
  refine e13.clear (j := 14) (by omega) (by omega) fun w14 f14 Z14 e14 G14 => ?_
  refine e14.clear (j := 15) (by omega) (by omega) fun w15 f15 Z15 e15 G15 => ?_
  have G11_15 : Gw (gO g Z) w11 (gO g Z15) w15 := ((G12.trans G13).trans G14).trans G15
  obtain ⟨c15, hp15⟩ := keepB c11 hp11 G11_15
  have G15' := G11.trans G11_15
  have q15 : GM w15 g ck m P [] [] [] (gO g Z15) := ⟨_, _, _, _, _, _, e15.congr vG_nil, rfl⟩
  have ldF : ∀ {u : World} {K : Sl → Prop}, Blk u p [.slice (some ⟨b1, 0, none⟩) P.ns.length P.ns.length, .int .i64 root, .int .i64 terr, .int .i64 tpos, .slice (some ⟨b2, 0, none⟩) P.ns.length P.ns.length, .slice (some ⟨b3, 0, none⟩) P.ns.length P.ns.length, .slice (some ⟨b4, 0, none⟩) P.st.fs.length P.st.fs.length, .int .i64 P.main, .int .i64 e0, .int .i64 pos] → K ⟨some ⟨b4, 0, none⟩, P.st.fs.length, P.st.fs.length⟩ → LdS u ⟨p, 6, none⟩ K := fun hb hk => ldS hb rfl hk
  generalize hvs : [Value.slice (some ⟨b1, 0, none⟩) P.ns.length P.ns.length, .int .i64 root, .int .i64 terr, .int .i64 tpos, .slice (some ⟨b2, 0, none⟩) P.ns.length P.ns.length, .slice (some ⟨b3, 0, none⟩) P.ns.length P.ns.length, .slice (some ⟨b4, 0, none⟩) P.st.fs.length P.st.fs.length, .int .i64 P.main, .int .i64 e0, .int .i64 pos] = vs at ldF
  have c15 : Blk w15 p vs := by rw [← hvs]; exact c15
  have ldM : ∀ {u : World} {K : Int → Prop}, Blk u p vs → K P.main → LdI .i64 u ⟨p, 7, none⟩ K := fun hb hk => ldI hb (by rw [← hvs]; rfl) hk
  -- the entries, none known yet
  refine join_W (fun u => ∃ O', GM u g ck m P [] [] (List.replicate P.st.fs.length (-1)) O' ∧ Gw (gO g Z) w O' u ∧ Blk u p vs ∧ ¬ O' p) ?_ ?_
  · rintro u ⟨O2, q2, G2, c2, hp2⟩
    refine ldM c2 ?_
    rw [hmi]
    have hsplit : sAll P.ns P.st.ty P.st.ref P.st.fs P.main = sF P.ns P.st.ty P.st.ref (fnAt P.st.fs P.main) 0 ++ sRest P.ns P.st.ty P.st.ref P.st.fs P.main P.st.fs.length 0 (sF P.ns P.st.ty P.st.ref (fnAt P.st.fs P.main) 0).length := rfl
    have hlen0 := congrArg List.length hsplit
    rw [List.length_append] at hlen0
    refine gfun_spec pt hl200 q2 ml (by simp) (by rw [← hmi]; simp only [List.length_nil, Nat.zero_add]; omega) fun u3 O3 q3 G3 => ?_
    obtain ⟨c3, hp3⟩ := keepB c2 hp2 G3
    have G23 := G2.trans G3
    rw [← hmi] at q3
    simp only [List.nil_append, List.length_nil] at q3
    refine join_W (fun u => ∃ O' en, GM u g ck m P (sAll P.ns P.st.ty P.st.ref P.st.fs P.main) [] en O' ∧ Gw (gO g Z) w O' u ∧ en.length = P.st.fs.length ∧ (∀ k : Int, 0 ≤ k → k < en.length → en.getD k.toNat (-1) = ((entA P.ns P.st.ty P.st.ref P.st.fs P.main k : Nat) : Int))) ?_ ?_
    · rintro u ⟨O4, en, q4, G4, he, hen⟩
      refine fix_spec (w := u) (O := O4) (K := K) (entA P.ns P.st.ty P.st.ref P.st.fs P.main) (fun u5 O5 q5 G5 => hK u5 O5 en q5 (G4.trans G5) he hen) (by omega) (by rw [he]; exact pt.wf_all) hen q4
    · intro J hJ
      refine loopN (fun n v u => ∃ (i : Nat) (L : List Sym) (en : List Int) (O' : Nat → Prop), v = ((i : Int), ()) ∧ i + n = P.st.fs.length ∧ L ++ sRest P.ns P.st.ty P.st.ref P.st.fs P.main n i L.length = sAll P.ns P.st.ty P.st.ref P.st.fs P.main ∧ GM u g ck m P L [] en O' ∧ Gw (gO g Z) w O' u ∧ en.length = P.st.fs.length ∧ Blk u p vs ∧ ¬ O' p ∧
        (∀ k : Nat, k < i ∨ k = mi → k < P.st.fs.length → en.getD k (-1) = ((entA P.ns P.st.ty P.st.ref P.st.fs P.main (k : Int) : Nat) : Int)) ∧ (∀ k : Nat, i ≤ k → k ≠ mi → entA P.ns P.st.ty P.st.ref P.st.fs P.main (k : Int) = entR P.ns P.st.ty P.st.ref P.st.fs P.main n i L.length (k : Int))) P.st.fs.length
        ⟨0, _, _, O3, rfl, by omega, hsplit.symm, q3, G23, by simp, c3, hp3, fun k hk hkl => ?_, fun k _ hk => ?_⟩ ?_
      · rcases hk with hk | rfl
        · omega
        · rw [hmi, ent_main]
          rw [List.getD_eq_getElem?_getD, List.getElem?_set_self (by simpa using ml)]; rfl
      · unfold entA; rw [if_neg (by omega)]
      rintro n _ u ⟨i, L, en, O4, rfl, hi, hL, q4, G4, he, c4, hp4, hen1, hen2⟩ Q hQ
      dsimp only
      refine ldF c4 ?_
      dsimp only
      cases n with
      | zero =>
        rw [if_neg (by simp only [decide_eq_true_eq]; omega)]
        have hL : L = sAll P.ns P.st.ty P.st.ref P.st.fs P.main := by rw [← hL]; simp [sRest]
        rw [hL] at q4
        refine hJ u ⟨O4, en, q4, G4, he, fun k h0 h1 => ?_⟩
        obtain ⟨k, rfl⟩ : ∃ k' : Nat, k = k' := ⟨k.toNat, by omega⟩
        rw [Int.toNat_natCast]
        exact hen1 k (.inl (by omega)) (by omega)
      | succ n =>
        rw [if_pos (by simp only [decide_eq_true_eq]; omega)]
        refine join_ (ldM c4 ?_)
        by_cases hk : i = mi
        · rw [if_neg (by rw [hmi, hk]; simp)]
          refine let_ ?_
          rw [W_succ (by omega)]
          have hs : sRest P.ns P.st.ty P.st.ref P.st.fs P.main (n + 1) i L.length = sRest P.ns P.st.ty P.st.ref P.st.fs P.main n (i + 1) L.length := by
            conv => lhs; unfold sRest
            rw [if_pos (by rw [hmi, hk])]
          refine hQ n _ u (by omega) ⟨i + 1, L, en, O4, rfl, by omega, by rw [← hs]; exact hL, q4, G4, he, c4, hp4, fun k h0 h1 => hen1 k (by omega) h1, fun k h0 h1 => ?_⟩
          rw [hen2 k (by omega) h1]
          conv => lhs; unfold entR
          rw [if_pos (by rw [hmi, hk])]
        · rw [if_pos (by rw [hmi]; simp only [bne_iff_ne, ne_eq]; omega)]
          have hs : sRest P.ns P.st.ty P.st.ref P.st.fs P.main (n + 1) i L.length = sF P.ns P.st.ty P.st.ref (fnAt P.st.fs (i : Int)) L.length ++ sRest P.ns P.st.ty P.st.ref P.st.fs P.main n (i + 1) (L.length + (sF P.ns P.st.ty P.st.ref (fnAt P.st.fs (i : Int)) L.length).length) := by
            conv => lhs; unfold sRest
            rw [if_neg (by rw [hmi]; omega)]
          rw [hs] at hL
          have hLl := congrArg List.length hL
          simp only [List.length_append] at hLl
          refine gfun_spec pt hl200 q4 (by omega) he (by omega) fun u5 O5 q5 G5 => let_ ?_
          obtain ⟨c5, hp5⟩ := keepB c4 hp4 G5
          rw [W_succ (by omega)]
          refine hQ n _ u5 (by omega) ⟨i + 1, _, _, O5, rfl, by omega, by rw [List.append_assoc, List.length_append]; exact hL, q5, G4.trans G5, by rw [List.length_set]; exact he, c5, hp5, fun k h0 h1 => ?_, fun k h0 h1 => ?_⟩
          · by_cases e : k = i
            · subst e
              rw [List.getD_eq_getElem?_getD, List.getElem?_set_self (by omega), hen2 k (by omega) hk]
              conv => rhs; unfold entR
              rw [if_neg (by rw [hmi]; omega), if_pos rfl]; rfl
            · rw [List.getD_eq_getElem?_getD, List.getElem?_set_ne (by omega), ← List.getD_eq_getElem?_getD]
              exact hen1 k (by omega) h1
          · rw [hen2 k (by omega) h1, List.length_append]
            conv => lhs; unfold entR
            rw [if_neg (by rw [hmi]; omega), if_neg (by omega)]
  · intro J hJ
    refine loopN (fun n v u => ∃ (i : Nat) (O' : Nat → Prop), v = ((i : Int), ()) ∧ i + n = P.st.fs.length ∧ GM u g ck m P [] [] (List.replicate i (-1)) O' ∧ Gw (gO g Z) w O' u ∧ Blk u p vs ∧ ¬ O' p) P.st.fs.length ⟨0, _, rfl, by omega, q15, G15', c15, hp15⟩ ?_
    rintro n _ u ⟨i, O2, rfl, hi, q2, G2, c2, hp2⟩ Q hQ
    dsimp only
    refine ldF c2 ?_
    dsimp only
    cases n with
    | zero =>
      rw [if_neg (by simp only [decide_eq_true_eq]; omega)]
      rw [show i = P.st.fs.length by omega] at q2
      exact hJ u ⟨O2, q2, G2, c2, hp2⟩
    | succ n =>
      rw [if_pos (by simp only [decide_eq_true_eq]; omega)]
      obtain ⟨f2, Z2, d1, d2, d3, d4, e2, rfl⟩ := q2
      refine e2.ldJ (by omega) (by omega) (by omega) (newB fun u3 c3 f3 s3 => ?_)
      have e3 := e2.fr0 f3
      have l15 : (Z2 15).l = i := by
        have := (e2.x.os 15 (by omega) (by omega)).len
        simpa [vG, szG, ints] using this.symm
      refine e3.x.app (j := 15) (by omega) (by omega) (.inl rfl) c3 (by simp [szG]) (by omega) (by simp [okV]) rfl (by omega) fun s4 u4 x4 G4 => ?_
      have ev : fset (vG (([] : List Sym).map r0) [] (callsOf 0 []) (List.replicate i (-1))) 15 (vG (([] : List Sym).map r0) [] (callsOf 0 []) (List.replicate i (-1)) 15 ++ [Value.int .i64 (-1)]) = vG (([] : List Sym).map r0) [] (callsOf 0 []) (List.replicate (i + 1) (-1)) := by
        have e1 : vG (([] : List Sym).map r0) [] (callsOf 0 []) (List.replicate i (-1)) 15 ++ [Value.int .i64 (-1)] = ints (List.replicate (i + 1) (-1)) := by
          rw [List.replicate_succ']; simp [vG, ints]
        rw [e1, vG15]
      rw [show (Array.toList #[Value.int .i64 (-1)]) = [Value.int .i64 (-1)] from rfl, ev] at x4
      have e4 := e3.gw x4 G4
      have es : fset Z2 15 s4 15 = s4 := fset_eq _ _ _
      have st := e4.stJ (K := fun w => Let (W ((i : Int) + 1)) fun i_51 => Q (i_51, ()) w) (by omega) (by omega) fun u5 e5 G5 => ?_
      · rw [es] at st
        exact st
      refine let_ ?_
      rw [W_succ (by omega)]
      have G25 := ((Gw.new f3).trans G4).trans G5
      obtain ⟨c5, hp5⟩ := keepB c2 hp2 G25
      exact hQ n _ u5 (by omega) ⟨i + 1, _, rfl, by omega, ⟨_, _, _, _, _, _, e5, rfl⟩, G2.trans G25, c5, hp5⟩
end Go.Proofs.Qxb6500562aGreat
