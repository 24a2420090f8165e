/-
  The model's heap: Alloc, New.
-/
import Derived.Test.Qxb6500562aGreatHmF
namespace Go.Proofs.Qxb6500562aGreat
open Go.Den Go.Zip
set_option linter.unusedVariables false
set_option linter.unusedSimpArgs false
variable {w w' w0 u : World} {h : Nat} {es fs : List OE} {roots l : List Int} {so sr s : Sl} {M : SH} {O O' P : Nat → Prop} {nb : Nat}

theorem len_live (M : SH) : (order M).length ≤ live M := by
  unfold live
  have : ∀ l : List Int, l.length ≤ (l.map fun x => osz (obAt M x)).sum := by
    intro l
    induction l with
    | nil => simp
    | cons x l ih =>
      simp only [List.length_cons, List.map_cons, List.sum_cons]
      have : 1 ≤ osz (obAt M x) := by unfold osz; omega
      omega
  exact this _
/-- An object comes at the end. -/
theorem HMm.add {e : OE} {so' : Sl} {w1 w2 : World} (m : HMm w h es roots so sr) (f1 : FrP (owns so) w w1) (o1 : OS w1 so' (es.flatMap obC ++ obC e) 2) (hg : ∀ b, owns so' b → owns so b ∨ w.heap.size ≤ b) (f2 : Fr h 1 w1 w2) (hb : Blk w2 h [.slice so'.a so'.l so'.c, .slice sr.a sr.l sr.c])
    (hne : e.rb ≠ e.ib) (hold : ∀ b, (b = e.rb ∨ b = e.ib) → ¬ hmo h es so sr b ∧ ¬ owns so' b) (b1 : Blk w1 e.rb (ints e.ob.refs)) (b2 : Blk w1 e.ib (ints e.ob.ints)) (hl : es.length < 49) (hs : e.ob.refs.length ≤ 48 ∧ e.ob.ints.length ≤ 48) (hr : ∀ y ∈ e.ob.refs, y = -1) :
    HMm w2 h (es ++ [e]) roots so' sr := by
  have hlt := m.lt
  have hso' : ¬ owns so' h := fun ho => by
    rcases hg h ho with h1 | h1
    · exact m.d1.1 h1
    · have := m.rc.lt; omega
  have hw := m.wm
  have e1 := hold e.rb (.inl rfl)
  have e2 := hold e.ib (.inr rfl)
  have nh : ∀ b, (b = e.rb ∨ b = e.ib) → b ≠ h := fun b hb e' => (hold b hb).1 (.inl e')
  have memc : ∀ f, f ∈ es ++ [e] → f ∈ es ∨ f = e := fun f hf => by
    rcases List.mem_append.1 hf with hf | hf
    · exact .inl hf
    · exact .inr (by simpa using hf)
  refine ⟨hb, ?_, ?_, fun f hf => ?_, ⟨?_, fun f hf => ?_⟩, ⟨hso', m.d1.2.1, fun b hb ho => ?_⟩, fun f hf b hbb => ?_, ?_⟩
  · rw [List.flatMap_append]
    simp only [List.flatMap_cons, List.flatMap_nil, List.append_nil]
    exact o1.frp (FrP.of (P := fun b => b = h) f2 fun b h1 h2 => by omega) fun b hb e' => hso' (by rw [← e']; exact hb)
  · exact (m.rt.frp f1 fun b hb ho => m.d1.2.2 b ho hb).frp (FrP.of (P := fun b => b = h) f2 fun b h1 h2 => by omega) fun b hb e' => m.d1.2.1 (by rw [← e']; exact hb)
  · rcases memc f hf with hf | rfl
    · have d1 := m.d2 f hf f.rb (.inl rfl)
      have d2 := m.d2 f hf f.ib (.inr rfl)
      exact ⟨((m.bk f hf).1.frp f1 d1.2.1).fr f2 (by omega), ((m.bk f hf).2.frp f1 d2.2.1).fr f2 (by omega)⟩
    · have n1 := nh _ (.inl rfl)
      have n2 := nh _ (.inr rfl)
      exact ⟨b1.fr f2 (by omega), b2.fr f2 (by omega)⟩
  · rw [List.pairwise_append]
    refine ⟨m.nd.1, by simp, fun f hf g hg' => ?_⟩
    simp only [List.mem_singleton] at hg'
    subst hg'
    refine ⟨fun e' => e1.1 (.inr (.inr (.inr ⟨f, hf, .inl e'.symm⟩))), fun e' => e2.1 (.inr (.inr (.inr ⟨f, hf, .inl e'.symm⟩))), fun e' => e1.1 (.inr (.inr (.inr ⟨f, hf, .inr e'.symm⟩))), fun e' => e2.1 (.inr (.inr (.inr ⟨f, hf, .inr e'.symm⟩)))⟩
  · rcases memc f hf with hf | rfl
    · exact m.nd.2 f hf
    · exact hne
  · rcases hg b hb with h1 | h1
    · exact m.d1.2.2 b h1 ho
    · have := m.rt.lt ho; omega
  · rcases memc f hf with hf | rfl
    · have d := m.d2 f hf b hbb
      refine ⟨d.1, fun ho => ?_, d.2.2⟩
      rcases hg b ho with h1 | h1
      · exact d.2.1 h1
      · have := hlt b (.inr (.inr (.inr ⟨f, hf, hbb⟩))); omega
    · have := hold b hbb
      exact ⟨fun e' => this.1 (.inl e'), this.2, fun ho => this.1 (.inr (.inr (.inl ho)))⟩
  · refine ⟨hw.rl, by simp; omega, fun o ho => ?_, fun x hx => ?_, fun o ho y hy => ?_⟩
    · rw [List.map_append] at ho
      rcases List.mem_append.1 ho with ho | ho
      · exact hw.fl o ho
      · have : o = e.ob := by simpa using ho
        rw [this]; exact hs
    · have := hw.rr x hx
      simp only [List.length_map, List.length_append, List.length_cons, List.length_nil] at this ⊢
      omega
    · rw [List.map_append] at ho
      simp only [List.length_map, List.length_append, List.length_cons, List.length_nil]
      rcases List.mem_append.1 ho with ho | ho
      · have := hw.fr o ho y hy
        simp only [List.length_map] at this
        omega
      · have h1 : o = e.ob := by simpa using ho
        rw [h1] at hy
        rw [hr y hy]
        omega
set_option maxHeartbeats 1000000 in
theorem malloc_spec {a b : Int} {K : Int → World → Prop} (m : HM w h M O) (hK : ∀ w' O', HM w' h (if (hAlloc M a b).1 = 0 then born (tidy M) a b else M) O' → Gw O w O' w' → K (hAlloc M a b).1 w') : S.heapm_Heap_Alloc h a b w K := by
  unfold S.heapm_Heap_Alloc
  have hwm := m.wm
  have bad1 : (a < 0 ∨ b < 0) → K 1 w := fun hc => by
    have hp : hAlloc M a b = (1, M) := by unfold hAlloc; rw [if_pos hc]
    rw [hp, if_neg (by simp)] at hK
    exact hK w _ m (Gw.refl _ _)
  by_cases h1 : a < 0
  · rw [if_pos (by simpa using h1)]; exact bad1 (.inl h1)
  rw [if_neg (by simpa using h1)]
  by_cases h2 : b < 0
  · rw [if_pos (by simpa using h2)]; exact bad1 (.inr h2)
  rw [if_neg (by simpa using h2)]
  have hr : LdS w ⟨h, 1, none⟩ (fun s => (s.l : Int) = M.roots.length) := by
    obtain ⟨es, so, sr, m, _, _⟩ := m
    exact ldS m.rc rfl (by dsimp only; rw [m.rl])
  obtain ⟨s0, hs0, hs1⟩ := hr
  refine ⟨s0, hs0, ?_⟩
  dsimp only
  rw [hs1]
  by_cases h3 : 24 ≤ M.roots.length
  · rw [if_pos (by simp only [decide_eq_true_eq]; omega)]
    have hp : hAlloc M a b = (3, M) := by unfold hAlloc; rw [if_neg (by omega), if_pos h3]
    rw [hp, if_neg (by simp)] at hK
    exact hK w _ m (Gw.refl _ _)
  rw [if_neg (by simp only [decide_eq_true_eq]; omega)]
  have bad6 : ∀ u, FrP (fun _ => False) w u → (48 < a ∨ 48 < b ∨ 48 < (live M : Int) + 1 + a + b) → K 6 u := fun u f hc => by
    have hp : hAlloc M a b = (6, M) := by unfold hAlloc; rw [if_neg (by omega), if_neg h3, if_pos hc]
    rw [hp, if_neg (by simp)] at hK
    exact hK u _ (m.frp f fun _ _ h => h) ⟨f.mono fun b hb => hb.elim, fun b hb => .inl hb⟩
  by_cases h4 : 48 < a
  · rw [if_pos (by simpa using h4)]; exact bad6 w (FrP.refl _ _) (.inl h4)
  rw [if_neg (by simpa using h4)]
  by_cases h5 : 48 < b
  · rw [if_pos (by simpa using h5)]; exact bad6 w (FrP.refl _ _) (.inr (.inl h5))
  rw [if_neg (by simpa using h5)]
  refine mlive_spec m fun u fu => ?_
  have hlv : live M ≤ 49 * 97 := by
    unfold live
    have hin := order_in hwm
    have hle := order_len hwm
    have hol := hwm.ol
    refine Nat.le_trans (sum_le _ 97 _ fun x hx => ?_) (Nat.mul_le_mul_right _ (by omega))
    have := ob_le hwm (hin x hx).1 (hin x hx).2
    unfold osz; omega
  rw [W_id (x := (live M : Int) + 1) (by omega) (by omega), W_id (x := (live M : Int) + 1 + a) (by omega) (by omega), W_id (by omega) (by omega)]
  by_cases h6 : 48 < (live M : Int) + 1 + a + b
  · rw [if_pos (by simpa using h6)]; exact bad6 u fu (.inr (.inr h6))
  rw [if_neg (by simpa using h6)]
  have hp : hAlloc M a b = (0, born M a b) := by unfold hAlloc; rw [if_neg (by omega), if_neg h3, if_neg (by omega)]
  rw [hp, if_pos rfl] at hK
  have hK : ∀ w' O', HM w' h (born (tidy M) a b) O' → Gw O w O' w' → K 0 w' := hK
  have mu := m.frp fu fun _ _ h => h
  refine mtidy_spec mu fun w1 O1 m1 g1 => ?_
  have hK : ∀ w' O', HM w' h (born (tidy M) a b) O' → Gw O1 w1 O' w' → K 0 w' := fun w' O' x y => hK w' O' x (Gw.trans (Gw.trans ⟨fu.mono fun b hb => hb.elim, fun b hb => .inl hb⟩ g1) y)
  have hwt := hwm.tidy
  have hlt48 : (tidy M).objs.length ≤ 47 := by
    have := len_live M
    have e : (tidy M).objs.length = (order M).length := by simp [tidy]
    omega
  have hrt : (tidy M).roots.length < 24 := by
    have e : (tidy M).roots.length = M.roots.length := by simp [tidy]
    omega
  generalize tidy M = T at *
  clear hp bad1 bad6 m mu hwm g1 fu hlv h6 h3 hs0 hs1
  obtain ⟨A, rfl⟩ : ∃ A : Nat, a = A := ⟨a.toNat, by omega⟩
  obtain ⟨B, rfl⟩ : ∃ B : Nat, b = B := ⟨b.toNat, by omega⟩
  refine join_P (fun (p : Nat) u => ∃ r i : Nat, Fr 0 0 w1 u ∧ w1.heap.size ≤ r ∧ w1.heap.size ≤ i ∧ w1.heap.size ≤ p ∧ r ≠ i ∧ p ≠ r ∧ p ≠ i ∧ Blk u p [.slice (some ⟨r, 0, none⟩) A A, .slice (some ⟨i, 0, none⟩) B B] ∧ Blk u r (ints (List.replicate A 0)) ∧ Blk u i (ints (List.replicate B 0))) ?_ ?_
  · rintro p u ⟨r, i, fu, n1, n2, n3, n4, n5, n6, bp, br, bi⟩
    have mu := m1.frp (P := fun _ => False) (FrP.of0 fu) fun _ _ h => h
    have hlt1 := m1.lt
    refine ldS bp rfl ?_
    refine join_W (fun u => Fr 0 0 w1 u ∧ Blk u p [.slice (some ⟨r, 0, none⟩) A A, .slice (some ⟨i, 0, none⟩) B B] ∧ Blk u r (ints (List.replicate A (-1))) ∧ Blk u i (ints (List.replicate B 0))) ?_ ?_
    · rintro u ⟨fu, bp, br, bi⟩
      refine drew_ ?_
      have fu := fu.drew
      have bp := bp.drew
      have br := br.drew
      have bi := bi.drew
      generalize u.drew = u at *
      have mu := m1.frp (P := fun _ => False) (FrP.of0 fu) fun _ _ h => h
      obtain ⟨es, so, sr, mm, e, rfl⟩ := mu
      have hel : T.objs.length = es.length := by rw [e]; simp
      refine ldS mm.rc rfl (ldS bp rfl (ldS bp rfl ?_))
      refine newB fun u1 c1 g1 z1 => ?_
      have mm1 := mm.frp (P := fun _ => False) (FrP.of0 g1) fun _ _ h => h
      refine ⟨held mm.rc mm1.rc, ?_⟩
      have hol := mm1.ol
      refine appO mm1.oo c1 (by rfl) (by omega) rfl rfl (by show (so.l + 1) * 48 ≤ 2 ^ 46; omega) fun so' u2 o2 hl2 hg2 f2 => ?_
      refine st1 (mm1.rc.frp f2 mm1.d1.1) (by simp) fun u3 b3 f3 _ => ?_
      have hu1 := fu.le
      have hu2 := g1.le
      have hu3 := f2.1.1
      have rlt := br.lt
      have ilt := bi.lt
      have hold : ∀ b, (b = r ∨ b = i) → ¬ hmo h es so sr b ∧ ¬ owns so' b := fun b hb => by
        have hbw : w1.heap.size ≤ b := by rcases hb with rfl | rfl; exact n1; exact n2
        have hbl : b < u.heap.size := by rcases hb with rfl | rfl; exact rlt; exact ilt
        have h1 : ¬ hmo h es so sr b := fun ho => by have := hlt1 b ho; omega
        refine ⟨h1, fun ho => ?_⟩
        rcases hg2.owns ho with h2 | h2
        · exact h1 (.inr (.inl h2))
        · omega
      have hb1 := hold r (.inl rfl)
      have hb2 := hold i (.inr rfl)
      have m3 := mm1.add (e := ⟨r, i, ⟨List.replicate A (-1), List.replicate B 0⟩⟩) f2 (by simpa [obC] using o2) (fun b hb => hg2.owns hb) f3 b3 n4 hold ((br.fr g1 (by omega)).frp f2 fun ho => hb1.1 (.inr (.inl ho))) ((bi.fr g1 (by omega)).frp f2 fun ho => hb2.1 (.inr (.inl ho))) (by omega) ⟨by simp; omega, by simp; omega⟩ (fun y hy => List.eq_of_mem_replicate hy)
      have G3 : Gw (hmo h es so sr) w1 (hmo h (es ++ [⟨r, i, ⟨List.replicate A (-1), List.replicate B 0⟩⟩]) so' sr) u3 := by
        refine ⟨?_, ?_⟩
        · refine FrP.trans' (FrP.trans' (FrP.trans' (FrP.of0 (P := hmo h es so sr) fu) (FrP.of0 (P := fun _ => False) g1) fun b hb => hb.elim) f2 fun b hb => .inl (.inr (.inl hb))) (FrP.of (P := fun b => b = h) f3 fun b h1 h2 => by omega) fun b hb => .inl (.inl hb)
        · rintro b (hb | hb | hb | ⟨f, hf, hb⟩)
          · exact .inl (.inl hb)
          · rcases hg2.owns hb with h2 | h2
            · exact .inl (.inr (.inl h2))
            · exact .inr (by omega)
          · exact .inl (.inr (.inr (.inl hb)))
          · rcases List.mem_append.1 hf with hf | hf
            · exact .inl (.inr (.inr (.inr ⟨f, hf, hb⟩)))
            · have : f = ⟨r, i, ⟨List.replicate A (-1), List.replicate B 0⟩⟩ := by simpa using hf
              subst this
              rcases hb with hb | hb
              · have hb : b = r := hb
                exact .inr (by omega)
              · have hb : b = i := hb
                exact .inr (by omega)
      refine drew_ ?_
      have m3 := m3.frp (P := fun _ => False) (FrP.of0 (Fr.refl 0 0 u3).drew) fun _ _ h => h
      have G3 := G3.drew
      generalize u3.drew = u3 at *
      refine ldS m3.rc rfl (ldS m3.rc rfl ?_)
      have hol3 := m3.ol
      simp only [List.length_append, List.length_cons, List.length_nil] at hol3
      refine newB fun u4 c4 g4 z4 => ?_
      have m4 := m3.frp (P := fun _ => False) (FrP.of0 g4) fun _ _ h => h
      refine ⟨held m3.rc m4.rc, ?_⟩
      have ew : W ((so'.l : Int) - 1) = (es.length : Int) := by rw [W_id (by omega) (by omega)]; omega
      dsimp only at c4
      rw [ew] at c4
      refine mroot (x := (es.length : Int)) m4 (by omega) ⟨by omega, by simp; omega⟩ c4 fun w5 sr' m5 g5 => ?_
      refine hK w5 _ ⟨_, so', sr', ?_, ?_, rfl⟩ (Gw.trans G3 (Gw.trans ⟨FrP.of0 g4, fun b hb => .inl hb⟩ g5))
      · show HMm w5 h _ (T.roots ++ [(T.objs.length : Int)]) so' sr'
        rw [hel]; exact m5
      · show T.objs ++ [_] = _
        rw [e, List.map_append]
        simp
    · intro J16 hJ16
      refine loopN (fun n v u => ∃ j : Nat, v = ((j : Int), ()) ∧ j + n = A ∧ Fr 0 0 w1 u ∧ Blk u p [.slice (some ⟨r, 0, none⟩) A A, .slice (some ⟨i, 0, none⟩) B B] ∧ Blk u r (ints (List.replicate j (-1) ++ List.replicate (A - j) 0)) ∧ Blk u i (ints (List.replicate B 0))) A ⟨0, rfl, by omega, fu, bp, by simpa using br, bi⟩ ?_
      rintro n _ u ⟨j, rfl, hj, fu, bp, br, bi⟩ Q hQ
      dsimp only
      cases n with
      | zero =>
        rw [if_neg (by simp only [decide_eq_true_eq]; omega)]
        have : j = A := by omega
        subst this
        rw [Nat.sub_self, List.replicate_zero, List.append_nil] at br
        exact hJ16 u ⟨fu, bp, br, bi⟩
      | succ n =>
        rw [if_pos (by simp only [decide_eq_true_eq]; omega)]
        refine ldS bp rfl (ix rfl (by omega) (by dsimp only; omega) ?_)
        refine stA br (by simp; omega) fun u2 b2 f2 _ => ?_
        rw [W_succ (by omega)]
        have hset : (List.replicate j (-1 : Int) ++ List.replicate (A - j) 0).set (Int.toNat (j : Int)) (-1) = List.replicate (j + 1) (-1) ++ List.replicate (A - (j + 1)) 0 := by
          rw [Int.toNat_natCast, List.set_append_right _ _ (by simp), List.length_replicate, Nat.sub_self, show A - j = (A - (j + 1)) + 1 by omega, List.replicate_succ, List.set_cons_zero, List.replicate_succ', List.append_assoc]
          rfl
        rw [hset] at b2
        exact hQ n _ u2 (by omega) ⟨j + 1, rfl, by omega, (fu.any r 1).trans f2 |>.fresh n1 0 0, bp.fr f2 (by omega), b2, bi.fr f2 (by omega)⟩
  · intro J22 hJ22
    refine drew_ ?_
    have hD : Fr 0 0 w1 w1.drew := (Fr.refl 0 0 w1).drew
    have hDs : w1.drew.heap.size = w1.heap.size := rfl
    generalize w1.drew = v at *
    -- the end of each order
    have fin : ∀ (u : World) (p r i : Nat), Fr 0 0 w1 u → w1.heap.size ≤ r → w1.heap.size ≤ i → w1.heap.size ≤ p → r ≠ i → p ≠ r → p ≠ i → Blk u p [.slice none 0 0, .slice none 0 0] → Blk u r (reps [.int .i64 0] A) → Blk u i (reps [.int .i64 0] B) →
        (St1 u ⟨p, 0, none⟩ (.slice (some ⟨r, 0, none⟩) A A) fun w => St1 w ⟨p, 1, none⟩ (.slice (some ⟨i, 0, none⟩) B B) fun w => J22 p w) := by
      intro u p r i fu n1 n2 n3 n4 n5 n6 bp br bi
      rw [reps_ints] at br bi
      refine st1 bp (by simp) fun u1 b1 f1 _ => st1 b1 (by simp) fun u2 b2 f2 _ => ?_
      have F := f1.trans f2
      exact hJ22 p u2 ⟨r, i, (fu.any p 1).trans F |>.fresh n3 0 0, n1, n2, n3, n4, n5, n6, b2, br.fr F (by omega), bi.fr F (by omega)⟩
    refine ⟨?_, ?_, ?_⟩
    · refine mkS (by omega) (by omega) (by omega) (by omega) fun u1 c1 g1 z1 => ?_
      simp only [Int.toNat_natCast] at c1 ⊢
      refine ⟨?_, ?_⟩
      · refine mkS (by omega) (by omega) (by omega) (by omega) fun u2 c2 g2 z2 => newB fun u3 c3 g3 z3 => ?_
        simp only [Int.toNat_natCast] at c2 ⊢
        exact fin u3 _ _ _ (((hD.trans g1).trans g2).trans g3) (by omega) (by omega) (by omega) (by omega) (by omega) (by omega) c3 ((c1.fr g2 (by omega)).fr g3 (by omega)) (c2.fr g3 (by omega))
      · refine newB fun u2 c2 g2 z2 => mkS (by omega) (by omega) (by omega) (by omega) fun u3 c3 g3 z3 => ?_
        simp only [Int.toNat_natCast] at c3 ⊢
        exact fin u3 _ _ _ (((hD.trans g1).trans g2).trans g3) (by omega) (by omega) (by omega) (by omega) (by omega) (by omega) (c2.fr g3 (by omega)) ((c1.fr g2 (by omega)).fr g3 (by omega)) c3
    · refine mkS (by omega) (by omega) (by omega) (by omega) fun u1 c1 g1 z1 => ?_
      simp only [Int.toNat_natCast] at c1 ⊢
      refine ⟨?_, ?_⟩
      · refine mkS (by omega) (by omega) (by omega) (by omega) fun u2 c2 g2 z2 => newB fun u3 c3 g3 z3 => ?_
        simp only [Int.toNat_natCast] at c2 ⊢
        exact fin u3 _ _ _ (((hD.trans g1).trans g2).trans g3) (by omega) (by omega) (by omega) (by omega) (by omega) (by omega) c3 (c2.fr g3 (by omega)) ((c1.fr g2 (by omega)).fr g3 (by omega))
      · refine newB fun u2 c2 g2 z2 => mkS (by omega) (by omega) (by omega) (by omega) fun u3 c3 g3 z3 => ?_
        simp only [Int.toNat_natCast] at c3 ⊢
        exact fin u3 _ _ _ (((hD.trans g1).trans g2).trans g3) (by omega) (by omega) (by omega) (by omega) (by omega) (by omega) (c2.fr g3 (by omega)) c3 ((c1.fr g2 (by omega)).fr g3 (by omega))
    · refine newB fun u1 c1 g1 z1 => ⟨?_, ?_⟩
      · refine mkS (by omega) (by omega) (by omega) (by omega) fun u2 c2 g2 z2 => mkS (by omega) (by omega) (by omega) (by omega) fun u3 c3 g3 z3 => ?_
        simp only [Int.toNat_natCast] at c2 c3 ⊢
        exact fin u3 _ _ _ (((hD.trans g1).trans g2).trans g3) (by omega) (by omega) (by omega) (by omega) (by omega) (by omega) ((c1.fr g2 (by omega)).fr g3 (by omega)) (c2.fr g3 (by omega)) c3
      · refine mkS (by omega) (by omega) (by omega) (by omega) fun u2 c2 g2 z2 => mkS (by omega) (by omega) (by omega) (by omega) fun u3 c3 g3 z3 => ?_
        simp only [Int.toNat_natCast] at c2 c3 ⊢
        exact fin u3 _ _ _ (((hD.trans g1).trans g2).trans g3) (by omega) (by omega) (by omega) (by omega) (by omega) (by omega) ((c1.fr g2 (by omega)).fr g3 (by omega)) c3 (c2.fr g3 (by omega))
theorem mheap_New {K : Nat → World → Prop} (hK : ∀ w' h O, HM w' h ⟨[], []⟩ O → Fr 0 0 w w' → (∀ b, O b → w.heap.size ≤ b) → K h w') : S.heapm_New w K := by
  unfold S.heapm_New
  refine newB fun w1 b1 f1 s1 => ?_
  refine hK w1 _ (hmo w.heap.size [] ⟨none, 0, 0⟩ ⟨none, 0, 0⟩) ⟨[], ⟨none, 0, 0⟩, ⟨none, 0, 0⟩, ⟨b1, OS.nil _ _, OS.nil _ _, fun e he => (by cases he), ⟨.nil, fun e he => (by cases he)⟩, ⟨by simp [owns], by simp [owns], by simp [owns]⟩, fun e he => (by cases he), ⟨by simp, by simp, by simp, by simp, by simp⟩⟩, rfl, rfl⟩ f1 ?_
  rintro b (hb | hb | hb | ⟨e, he, _⟩)
  · omega
  · simp [owns] at hb
  · simp [owns] at hb
  · cases he
end Go.Proofs.Qxb6500562aGreat
