/-
  The code generator's Check.
-/
import Derived.Test.Qxb6500562aGreatGcP
import Derived.Test.Qxb6500562aGreatGnI
import Derived.Test.Qxb6500562aGreatS7
namespace Go.Proofs.Qxb6500562aGreat
open Go.Den Go.Zip
set_option linter.unusedVariables false
set_option linter.unusedSimpArgs false
variable {w w' : World} {g : Nat} {f : Nat → Value} {Z : Nat → Sl} {V : Nat → List Value} {cs : List Nat} {hs en : List Int} {cl : List (Int × Int)} {b n : Nat} {m : Nat → Bool}

theorem GX.ldJ {j : Nat} {K : Sl → Prop} (x : GX w g f Z V 0) (h1 : 12 ≤ j) (h2 : j < 16) (hK : K (Z j)) : LdS w ⟨g, j, none⟩ K := ldS x.rc (by rw [tab_get h2, x.sl j h1 h2 (by omega)]) hK
theorem GX.fr0 (x : GX w g f Z V 0) (F : Fr 0 0 w w') : GX w' g f Z V 0 := x.frp (Q := fun _ => False) (FrP.of0 F) fun _ _ h => h
theorem GX.drew (x : GX w g f Z V 0) : GX w.drew g f Z V 0 := x.fr0 (Fr.refl 0 0 w).drew
theorem GX.o12 (x : GX w g f Z (vG cs hs cl en) 0) : OS w (Z 12) (byts cs) 1 := x.os 12 (by omega) (by omega)
theorem GX.o14 (x : GX w g f Z (vG cs hs cl en) 0) : OS w (Z 14) (cl.flatMap prV) 2 := x.os 14 (by omega) (by omega)
theorem GX.o15 (x : GX w g f Z (vG cs hs cl en) 0) : OS w (Z 15) (ints en) 1 := x.os 15 (by omega) (by omega)
theorem GX.l12 (x : GX w g f Z (vG cs hs cl en) 0) : (Z 12).l = cs.length := by
  have := x.o12.len
  simpa using this.symm
theorem GX.l13 (x : GX w g f Z (vG cs hs cl en) 0) : (Z 13).l = hs.length := by
  have : OS w (Z 13) (ints hs) 1 := x.os 13 (by omega) (by omega)
  have := this.len
  simpa [ints] using this.symm
theorem GX.l14 (x : GX w g f Z (vG cs hs cl en) 0) : (Z 14).l = cl.length := by
  have := x.o14.len
  rw [flat_length (c := 2) (fun _ => rfl)] at this
  omega
theorem GX.l15 (x : GX w g f Z (vG cs hs cl en) 0) : (Z 15).l = en.length := by
  have := x.o15.len
  simpa [ints] using this.symm
theorem gdN {i : Nat} (h : i < cs.length) : cs[i]? = some (cs.getD i 0) := by rw [List.getD_eq_getElem?_getD, List.getElem?_eq_getElem h]; rfl
theorem starts_spec {K : Sl → Bool → World → Prop} (x : GX w g f Z (vG cs hs cl en) 0) (F : FineC cs cl en)
    (hK : ∀ w' b (m : Nat → Bool), Blk w' b (tab cs.length fun i => .bool (m i)) → (∀ i, i < cs.length → (m i = true ↔ Row cs 0 i)) → Fr 0 0 w w' → K ⟨some ⟨b, 0, none⟩, cs.length, cs.length⟩ true w') : S.gen_Engine_starts g w K := by
  unfold S.gen_Engine_starts
  have hl := F.len
  refine x.ldJ (by omega) (by omega) ?_
  rw [x.l12]
  refine mkS (by omega) (by omega) (by omega) (by omega) fun w1 b1 f1 s1 => ?_
  rw [Int.toNat_natCast] at *
  have e0 : reps [.bool false] cs.length = tab cs.length fun i => .bool ((fun _ => false) i) := tab_ext (by rw [reps_length]; simp) fun i hi => by
    rw [reps_get _ _ _ (by simpa using hi)]
    show [Value.bool false][i % 1]? = _
    rw [Nat.mod_one]; rfl
  rw [e0] at b1
  rw [join_eq]
  refine loopN (fun n st v => ∃ (pc : Nat) (m : Nat → Bool), st = ((pc : Int), ()) ∧ pc + n = cs.length ∧ Row cs 0 pc ∧ Blk v w.heap.size (tab cs.length fun i => .bool (m i)) ∧ (∀ i, i < cs.length → (m i = true ↔ (Row cs 0 i ∧ i < pc))) ∧ Fr 0 0 w v) cs.length ⟨0, fun _ => false, rfl, by omega, .refl _, b1, fun i hi => by simp, f1⟩ ?_
  rintro n _ v ⟨pc, m, rfl, hn, hr, hb, hm, hf⟩ Q hQ
  dsimp only
  have xv := x.fr0 hf
  refine xv.ldJ (by omega) (by omega) ?_
  rw [xv.l12]
  by_cases hp : pc < cs.length
  · rw [if_pos (by simp only [decide_eq_true_eq]; omega)]
    refine xv.ldJ (by omega) (by omega) (OS.rd xv.o12 (gdN hp) ?_)
    have h256 := F.byt pc
    rw [W_id (x := ((cs.getD pc 0 : Nat) : Int)) (by omega) (by omega)]
    refine opArgs_spec ?_
    have hr2 : Row cs pc cs.length := hr.det F.row (by omega)
    obtain ⟨ho, hnx⟩ : cs.getD pc 0 < 37 ∧ Row cs (pc + 1 + nargs (cs.getD pc 0)) cs.length := by
      rcases hr2.inv with e | ⟨_, b, c⟩
      · omega
      · exact ⟨b, c⟩
    have hle := hnx.le
    generalize hna : nargs (cs.getD pc 0) = k at *
    rw [if_neg (show ¬ 37 ≤ cs.getD pc 0 by omega)]
    rw [if_neg (by simp only [decide_eq_true_eq]; omega)]
    refine xv.ldJ (by omega) (by omega) ?_
    rw [xv.l12, W_succ (by omega), W_id (by omega) (by omega), if_neg (by simp only [decide_eq_true_eq]; omega)]
    refine ix rfl (by omega) (by omega) ?_
    rw [Nat.zero_add, Nat.mul_one, Int.toNat_natCast]
    refine st1 hb (by simpa using hp) fun v2 b2 f2 s2 => let_ ?_
    rw [tab_set] at b2
    have e2 : (fset (fun i => Value.bool (m i)) pc (Value.bool true)) = fun i => Value.bool (fset m pc true i) := by
      funext i; unfold fset; split <;> rfl
    rw [e2] at b2
    refine hQ (n - 1 - k) _ v2 (by omega) ⟨pc + 1 + k, fset m pc true, by congr 1, by omega, hr.trans (.step hp ho (by rw [hna]; exact .refl _)), b2, fun i hi => ?_, ((hf.any w.heap.size 1).trans f2).fresh (Nat.le_refl _) 0 0⟩
    by_cases hi' : i = pc
    · subst hi'
      rw [fset_eq]
      exact ⟨fun _ => ⟨hr, by omega⟩, fun _ => rfl⟩
    · rw [fset_ne hi', hm i hi]
      refine ⟨fun h => ⟨h.1, by omega⟩, fun h => ⟨h.1, ?_⟩⟩
      rcases Nat.lt_or_ge i pc with h' | h'
      · exact h'
      · have := hr.det h.1 h'
        rcases this.inv with e | ⟨_, _, c⟩
        · omega
        · have := c.le; rw [hna] at this; omega
  · rw [if_neg (by simp only [decide_eq_true_eq]; omega)]
    exact hK v _ m hb (fun i hi => by rw [hm i hi]; exact ⟨fun h => h.1, fun h => ⟨h, by omega⟩⟩) hf
theorem lands_spec {t : Nat} {K : Bool → World → Prop} (hb : Blk w b (tab n fun i => .bool (m i))) (ht : t < n) (hm : m t = true) (hK : K true w) : S.gen_lands ⟨some ⟨b, 0, none⟩, n, n⟩ (t : Nat) w K := by
  unfold S.gen_lands
  rw [if_pos (by simp only [decide_eq_true_eq]; omega), if_pos (by simp only [decide_eq_true_eq]; omega)]
  refine ix rfl (by omega) (by show ((t : Nat) : Int) < (n : Nat); omega) (ldB hb (m := true) ?_ hK)
  rw [Nat.zero_add, Nat.mul_one, Int.toNat_natCast, tab_get ht, hm]
theorem u16_any {p : Nat} {sc : Sl} {K : Int → World → Prop} (o : OS w sc (byts cs) 1) (hc : ∀ i, cs.getD i 0 < 256) (hl : cs.length ≤ 4096) (hp : p ≤ cs.length) (hK : ∀ (t : Int) w', (p + 2 ≤ cs.length → t = ((u16At cs p : Nat) : Int)) → Fr 0 0 w w' → K t w') : S.api_U16At sc (p : Nat) w K := by
  by_cases h : p + 2 ≤ cs.length
  · exact u16At_spec o hc hl h (hK _ _ (fun _ => rfl) (Fr.refl 0 0 w).drew)
  · unfold S.api_U16At
    have csl : sc.l = cs.length := by have := o.len; simpa using this.symm
    rw [if_neg (by simp only [decide_eq_true_eq]; omega), if_pos (by simp only [decide_eq_true_eq]; rw [csl, W_id (by omega) (by omega)]; omega)]
    exact hK 0 w (fun h' => absurd h' h) (Fr.refl 0 0 w)
theorem jumps_spec {K : Bool → World → Prop} (x : GX w g f Z (vG cs hs cl en) 0) (F : FineC cs cl en) (hb : Blk w b (tab cs.length fun i => .bool (m i))) (hm : ∀ i, i < cs.length → (m i = true ↔ Row cs 0 i))
    (hK : ∀ w', Fr 0 0 w w' → K true w') : S.gen_Engine_jumpsFine g ⟨some ⟨b, 0, none⟩, cs.length, cs.length⟩ w K := by
  unfold S.gen_Engine_jumpsFine
  have hl := F.len
  refine loopN (fun n st v => ∃ pc : Nat, st = ((pc : Int), ()) ∧ pc + n = cs.length ∧ Fr 0 0 w v) cs.length ⟨0, rfl, by omega, Fr.refl _ _ _⟩ ?_
  rintro n _ v ⟨pc, rfl, hn, hf⟩ Q hQ
  dsimp only
  have xv := x.fr0 hf
  refine xv.ldJ (by omega) (by omega) ?_
  rw [xv.l12]
  by_cases hp : pc < cs.length
  · rw [if_pos (by simp only [decide_eq_true_eq]; omega)]
    rw [W_succ (by omega)]
    have nx : ∀ v', Fr 0 0 v v' → (Let ((pc + 1 : Nat) : Int) fun pc_4 => Q (pc_4, ()) v') := fun v' f' => by
      refine let_ ?_
      exact hQ (n - 1) _ v' (by omega) ⟨pc + 1, rfl, by omega, hf.trans f'⟩
    rw [join_eq]
    have bv := hb.fr hf (by omega)
    refine ix rfl (by omega) (by omega) (ldB bv (m := m pc) (by rw [Nat.zero_add, Nat.mul_one, Int.toNat_natCast, tab_get hp]) ?_)
    by_cases hmp : m pc = true
    · rw [if_pos hmp]
      have hr := (hm pc hp).1 hmp
      have J := F.jmp pc hr hp
      refine xv.ldJ (by omega) (by omega) ?_
      refine u16_any (p := pc + 1) xv.o12 F.byt F.len (by omega) fun t v1 ht f1 => ?_
      have x1 := xv.fr0 f1
      have b1 := bv.fr f1 (by omega)
      have h256 := F.byt pc
      have hm' : ∀ t, Ld cs t → m t = true := fun t h => (hm t h.2).2 h.1
      refine x1.ldJ (by omega) (by omega) (OS.rd x1.o12 (gdN hp) ?_)
      rw [W_id (x := ((cs.getD pc 0 : Nat) : Int)) (by omega) (by omega), join_eq]
      dsimp only
      generalize ho : cs.getD pc 0 = o at *
      have g2 : 21 ≤ o ∧ o ≤ 24 → t = ((u16At cs (pc + 1) : Nat) : Int) := fun h => ht (by have := J.b (by rw [ho]; exact h); omega)
      have c22 : (o = 22 ∨ o = 23) → (if (decide (t ≤ (pc : Int))) = true then K false v1 else S.gen_lands ⟨some ⟨b, 0, none⟩, cs.length, cs.length⟩ t v1 (fun r16 w => if (!r16) = true then K false w else (Let ((pc + 1 : Nat) : Int) fun pc_4 => Q (pc_4, ()) w))) := fun h => by
        obtain ⟨j1, j2⟩ := J.z (by rw [ho]; exact h)
        rw [g2 (by omega), if_neg (by simp only [decide_eq_true_eq]; omega)]
        refine lands_spec b1 j2.2 (hm' _ j2) ?_
        rw [if_neg (by simp)]
        exact nx v1 f1
      by_cases h22 : o = 22
      · have e1 : (((o : Nat) : Int) == 22) = true := by rw [h22]; rfl
        rw [if_pos e1, if_pos e1]
        exact c22 (.inl h22)
      · rw [if_neg (by simp only [beq_iff_eq]; omega)]
        by_cases h23 : o = 23
        · rw [if_pos (by rw [h23]; rfl)]
          exact c22 (.inr h23)
        · rw [if_neg (by simp only [beq_iff_eq]; omega)]
          by_cases h21 : o = 21
          · rw [if_pos (by rw [h21]; rfl), g2 (by omega)]
            have j1 := J.j (by rw [ho]; exact h21)
            refine lands_spec b1 j1.2 (hm' _ j1) ?_
            rw [if_neg (by simp)]
            exact nx v1 f1
          · rw [if_neg (by simp only [beq_iff_eq]; omega)]
            by_cases h24 : o = 24
            · rw [if_pos (by rw [h24]; rfl), g2 (by omega)]
              obtain ⟨j1, j2⟩ := J.k (by rw [ho]; exact h24)
              refine lands_spec b1 j1.2 (hm' _ j1) ?_
              rw [if_neg (by simp)]
              refine x1.ldJ (by omega) (by omega) (OS.rd x1.o12 (gdN j1.2) ?_)
              rw [j2, if_neg (by decide)]
              exact nx v1 f1
            · rw [if_neg (by simp only [beq_iff_eq]; omega)]
              exact nx v1 f1
    · rw [if_neg hmp]
      exact nx v (Fr.refl _ _ _)
  · rw [if_neg (by simp only [decide_eq_true_eq]; omega)]
    exact hK v hf
theorem rdP {q : List (Int × Int)} {i : Nat} {s : Sl} {K : Int → Int → Prop} (h : OS w s (q.flatMap prV) 2) {c : Int × Int} (hi : q[i]? = some c) (hk : K c.1 c.2) : Ix s.a s.l (i : Nat) fun b o => LdI .i64 w ⟨b, o + Int.toNat ((i : Nat) : Int) * 2, none⟩ fun x => LdI .i64 w ⟨b, o + Int.toNat ((i : Nat) : Int) * 2 + 1, none⟩ fun y => K x y := by
  have hlt : i < q.length := by
    rcases Nat.lt_or_ge i q.length with h | h
    · exact h
    · simp [h] at hi
  have hl := h.len
  rw [flat_length (c := 2) (fun _ => rfl)] at hl
  rcases h with ⟨rfl, e⟩ | ⟨g, a, b, c', junk, d, l⟩
  · simp at hl; omega
  · refine ix a (by omega) (by omega) (ldI d (m := c.1) ?_ (ldI d (m := c.2) ?_ hk))
    · rw [Nat.zero_add, Int.toNat_natCast, List.getElem?_append_left (by rw [flat_length (c := 2) (fun _ => rfl)]; omega)]
      have := flat_get (f := prV) (c := 2) (fun _ => rfl) q i 0 (by omega)
      rw [Nat.add_zero] at this
      rw [this, hi]; rfl
    · rw [Nat.zero_add, Int.toNat_natCast, List.getElem?_append_left (by rw [flat_length (c := 2) (fun _ => rfl)]; omega)]
      have := flat_get (f := prV) (c := 2) (fun _ => rfl) q i 1 (by omega)
      rw [this, hi]; rfl
theorem holdS {b o n : Nat} {vs : List Value} (h1 : Blk w b vs) (h2 : Blk w' b vs) : ∀ i, i < n → w'.cell? ((⟨b, o, none⟩ : Addr).add i) = w.cell? ((⟨b, o, none⟩ : Addr).add i) := fun i _ => by
  rw [add_mk, h1.cell, h2.cell]
theorem rdE2 {i : Nat} {s : Sl} {e : Int} {K : Nat → Nat → Int → Prop} (h : OS w s (ints en) 1) (hi : en[i]? = some e) (hk : ∀ g us, Blk w g us → K g 0 e) : Ix s.a s.l (i : Nat) fun b o => LdI .i64 w ⟨b, o + Int.toNat ((i : Nat) : Int) * 1, none⟩ fun x => K b o x := by
  have hlt : i < en.length := by
    rcases Nat.lt_or_ge i en.length with h | h
    · exact h
    · simp [h] at hi
  have hl := h.len
  rcases h with ⟨rfl, e⟩ | ⟨g, a, b, c', junk, d, l⟩
  · simp [ints] at e; simp [e] at hi
  · refine ix a (by omega) (by simp [ints] at hl; omega) (ldI d (m := e) ?_ (hk g _ d))
    rw [Nat.zero_add, Int.toNat_natCast, Nat.mul_one, List.getElem?_append_left (by simpa [ints] using hlt)]
    exact ints_get hi
/-- A read of the entries. -/
theorem rdE {i : Nat} {s : Sl} {e : Int} {K : Int → Prop} (h : OS w s (ints en) 1) (hi : en[i]? = some e) (hk : ∀ g us, s.a = some ⟨g, 0, none⟩ → Blk w g us → us[i]? = some (.int .i64 e) → K e) : Ix s.a s.l (i : Nat) fun b o => LdI .i64 w ⟨b, o + Int.toNat ((i : Nat) : Int) * 1, none⟩ K := by
  have hlt : i < en.length := by
    rcases Nat.lt_or_ge i en.length with h | h
    · exact h
    · simp [h] at hi
  have hl := h.len
  rcases h with ⟨rfl, e⟩ | ⟨g, a, b, c', junk, d, l⟩
  · simp [ints] at e; simp [e] at hi
  · have hg : (ints en ++ junk)[i]? = some (.int .i64 e) := by rw [List.getElem?_append_left (by simpa [ints] using hlt)]; exact ints_get hi
    refine ix a (by omega) (by simp [ints] at hl; omega) (ldI d (m := e) ?_ (hk g _ a d hg))
    rw [Nat.zero_add, Int.toNat_natCast, Nat.mul_one]; exact hg
set_option maxHeartbeats 1000000 in
theorem tables_spec {K : Bool → World → Prop} (x : GX w g f Z (vG cs hs cl en) 0) (F : FineC cs cl en) (hb : Blk w b (tab cs.length fun i => .bool (m i))) (hm : ∀ i, i < cs.length → (m i = true ↔ Row cs 0 i))
    (hK : ∀ w', Fr 0 0 w w' → K true w') : S.gen_Engine_tablesFine g ⟨some ⟨b, 0, none⟩, cs.length, cs.length⟩ w K := by
  unfold S.gen_Engine_tablesFine
  have hl := F.len; have hel := F.el; have hcl := F.cl
  have hm' : ∀ t, Ld cs t → m t = true := fun t h => (hm t h.2).2 h.1
  refine x.ldJ (by omega) (by omega) (let_ ?_)
  refine join_P (fun z v => z = true ∧ Fr 0 0 w v) ?_ ?_
  · rintro _ v ⟨rfl, hf⟩
    refine loopN (fun n st u => ∃ k : Nat, st = ((k : Int), ()) ∧ k + n = cl.length ∧ Fr 0 0 w u) cl.length ⟨0, rfl, by omega, hf⟩ ?_
    rintro n _ u ⟨k, rfl, hn, hu⟩ Q hQ
    dsimp only
    have xu := x.fr0 hu
    refine xu.ldJ (by omega) (by omega) ?_
    rw [xu.l14]
    by_cases hk : k < cl.length
    · rw [if_pos (by simp only [decide_eq_true_eq]; omega)]
      have hq : cl[k]? = some cl[k] := List.getElem?_eq_getElem hk
      obtain ⟨r, e1, e2, e3, e4, e5, e6, e7⟩ := F.cal cl[k] (List.getElem_mem hk)
      generalize cl[k] = q at *
      obtain ⟨qh, qf⟩ := q
      dsimp only at e1 e2 e3 e7
      subst e1
      obtain ⟨fn, rfl⟩ : ∃ fn : Nat, qf = fn := ⟨qf.toNat, by omega⟩
      rw [Int.toNat_natCast] at e7
      refine xu.ldJ (by omega) (by omega) (rdP xu.o14 hq ?_)
      refine newB fun u1 c1 f1 s1 => ?_
      refine st1 c1 (by simp) fun u2 c2 f2 s2 => st1 c2 (by simp) fun u3 c3 f3 s3 => drew_ ?_
      have F3 : Fr 0 0 u u3.drew := (((f1.any _ 1).trans f2).trans f3).fresh (Nat.le_refl _) 0 0
      have c3 : Blk u3.drew u.heap.size [.int .i64 ((r : Int) + 1), .int .i64 (fn : Nat)] := c3
      have x3 := xu.fr0 F3
      refine ldI c3 rfl ?_
      rw [if_neg (by simp only [decide_eq_true_eq]; omega)]
      refine ldI c3 rfl (x3.ldJ (by omega) (by omega) ?_)
      rw [x3.l15, if_neg (by simp only [decide_eq_true_eq]; omega)]
      refine ldI c3 rfl ?_
      rw [show W ((r : Int) + 1 - 1) = ((r : Nat) : Int) by rw [W_id (by omega) (by omega)]; omega]
      have b3 := (hb.fr hu (by omega)).fr F3 (by omega)
      refine lands_spec b3 e4.2 (hm' _ e4) ?_
      rw [if_neg (by simp)]
      refine drew_ (x3.drew.ldJ (by omega) (by omega) (ldI c3.drew rfl ?_))
      rw [show W ((r : Int) + 1 - 1) = ((r : Nat) : Int) by rw [W_id (by omega) (by omega)]; omega]
      refine OS.rd x3.drew.o12 (gdN e4.2) ?_
      rw [e6, if_neg (by decide)]
      refine x3.drew.ldJ (by omega) (by omega) (ldI c3.drew rfl ?_)
      unfold Hold
      refine x3.drew.ldJ (by omega) (by omega) (ldI c3.drew rfl ?_)
      refine rdE2 x3.drew.o15 e7 fun ge us hd => ?_
      rw [show (r : Int) + 1 = ((r + 1 : Nat) : Int) by omega]
      refine u16_any x3.drew.o12 F.byt F.len (by omega) fun t u4 ht f4 => ?_
      have c4 := c3.drew.fr f4 (by omega)
      refine ⟨holdS hd (hd.fr f4 (by omega)), ⟨holdS c3.drew c4, ⟨holdS x3.drew.rc (x3.drew.fr0 f4).rc, ?_⟩⟩⟩
      rw [ht (by omega), if_neg (by simp)]
      refine let_ ?_
      rw [W_succ (by omega)]
      exact hQ (n - 1) _ u4 (by omega) ⟨k + 1, rfl, by omega, (hu.trans F3).trans f4⟩
    · rw [if_neg (by simp only [decide_eq_true_eq]; omega)]
      exact hK u hu
  · intro J hJ
    refine loopN (fun n st u => ∃ (z : Bool) (i : Nat), st = (z, (i : Int), ()) ∧ i + n = en.length ∧ Fr 0 0 w u ∧ (z = true ∨ (en ≠ [] ∧ ∀ j, j < i → en[j]? ≠ some 0))) en.length ⟨_, 0, rfl, by omega, Fr.refl _ _ _, ?_⟩ ?_
    · rw [x.l15]
      by_cases h : en = []
      · left; rw [h]; rfl
      · exact .inr ⟨h, fun j hj => by omega⟩
    rintro n _ u ⟨z, i, rfl, hn, hu, hz⟩ Q hQ
    dsimp only
    have xu := x.fr0 hu
    refine xu.ldJ (by omega) (by omega) ?_
    rw [xu.l15]
    by_cases hi : i < en.length
    · rw [if_pos (by simp only [decide_eq_true_eq]; omega)]
      have he : en[i]? = some en[i] := List.getElem?_eq_getElem hi
      obtain ⟨a, e1, e2, e3⟩ := F.ent en[i] (List.getElem_mem hi)
      generalize en[i] = e at *
      subst e1
      refine xu.ldJ (by omega) (by omega) (rdE xu.o15 he fun _ _ _ _ _ => ?_)
      refine lands_spec (hb.fr hu (by omega)) e2.2 (hm' _ e2) ?_
      rw [if_neg (by simp)]
      refine xu.ldJ (by omega) (by omega) (OS.rd xu.o12 (gdN e2.2) ?_)
      rw [e3, if_neg (by decide), join_eq]
      have nx : ∀ z' : Bool, (z' = true ∨ (en ≠ [] ∧ ∀ j, j < i + 1 → en[j]? ≠ some 0)) → (Let (W ((i : Int) + 1)) fun i_49 => Q (z', i_49, ()) u) := fun z' hz' => by
        refine let_ ?_
        rw [W_succ (by omega)]
        exact hQ (n - 1) _ u (by omega) ⟨z', i + 1, rfl, by omega, hu, hz'⟩
      by_cases hzt : z = true
      · rw [if_pos hzt]; exact nx true (.inl rfl)
      · rw [if_neg hzt]
        refine let_ (nx _ ?_)
        obtain ⟨z1, z2⟩ := hz.resolve_left hzt
        by_cases ha : a = 0
        · left; rw [ha]; rfl
        · right
          refine ⟨z1, fun j hj => ?_⟩
          rcases (by omega : j < i ∨ j = i) with h | rfl
          · exact z2 j h
          · rw [he]
            intro h
            simp only [Option.some.injEq] at h
            omega
    · rw [if_neg (by simp only [decide_eq_true_eq]; omega)]
      refine hJ z u ⟨?_, hu⟩
      rcases hz with h | ⟨h1, h2⟩
      · exact h
      · rcases F.zero with h | h
        · exact absurd h h1
        · obtain ⟨j, hj⟩ := List.getElem?_of_mem h
          obtain ⟨hj', _⟩ := List.getElem?_eq_some_iff.1 hj
          exact absurd hj (h2 j (by omega))
theorem gcheck_spec {K : Bool → World → Prop} (x : GX w g f Z (vG cs [] cl en) 0) (F : FineC cs cl en) (hK : ∀ w', Fr 0 0 w w' → K true w') : S.gen_Engine_Check g w K := by
  unfold S.gen_Engine_Check
  have hl := F.len
  refine x.ldJ (by omega) (by omega) ?_
  rw [x.l13, if_neg (by simp)]
  refine x.ldJ (by omega) (by omega) ?_
  rw [x.l12, if_neg (by simp only [decide_eq_true_eq]; omega)]
  refine starts_spec x F fun w1 b m b1 hm f1 => ?_
  rw [if_neg (by simp)]
  refine jumps_spec (x.fr0 f1) F b1 hm fun w2 f2 => ?_
  rw [if_neg (by simp)]
  exact tables_spec ((x.fr0 f1).fr0 f2) F (b1.fr f2 (by omega)) hm fun w3 f3 => hK w3 ((f1.trans f2).trans f3)
end Go.Proofs.Qxb6500562aGreat
