/-
  The real coder: the tables are laid.
-/
import Derived.Test.Qxb6500563aGreatCodR
namespace Go.Den
open Go.Zip
section
variable {w w' : World} {b n : Nat}
/-- Reading and writing a row of any numbers. -/
theorem rdZ {i m : Nat} {f : Nat → Int} {K : Int → Prop} (h : Blk w b (ints (tab n f))) (hi : i < n) (hk : K (f i)) (hm : m = n := by rfl) : Ix (some ⟨b, 0, none⟩) m (i : Int) fun b o => LdI .i64 w ⟨b, o + Int.toNat (i : Int) * 1, none⟩ K :=
  ix rfl (by omega) (by omega) (ldZ h hi hk)
theorem wrZ {i m : Nat} {f : Nat → Int} {x : Int} {K : World → Prop} (h : Blk w b (ints (tab n f))) (hi : i < n)
    (hk : ∀ w', Blk w' b (ints (tab n (fset f i x))) → Fr b 1 w w' → w'.heap.size = w.heap.size → K w') (hm : m = n := by rfl) : Ix (some ⟨b, 0, none⟩) m (i : Int) fun b o => St1 w ⟨b, o + Int.toNat (i : Int) * 1, none⟩ (.int .i64 x) K :=
  ix rfl (by omega) (by omega) (stZ h hi hk)
end
end Go.Den
namespace Go.Proofs.Qxb6500563aGreat
open Go.Den Go.Zip
set_option linter.unusedVariables false
set_option linter.unusedSimpArgs false
variable {w w' : World} {C : Nat} {s : CS}

/-- The value of a cell: symbol and length. -/
theorem cell_or {i x : Nat} (hi : i < 265) (hx : x < 16) : Or .i64 (Shl .i64 (i : Int) 4) (x : Int) = ((i * 16 + x : Nat) : Int) := by
  rw [show Shl .i64 (i : Int) 4 = ((i * 2 ^ 4 : Nat) : Int) from Shl_nat i 4 (by omega) (by omega), Or_nat (by omega) (by omega), Nat.mul_comm i, ← Nat.two_pow_add_eq_or_of_lt (by omega : x < 2 ^ 4)]
theorem pow_shl {k : Nat} (hk : k ≤ 16) : Shl .i64 1 (U64 (k : Int)) = ((2 ^ k : Nat) : Int) ∧ 0 ≤ U64 (k : Int) := by
  have hp : 2 ^ k ≤ 65536 := show 2 ^ k ≤ 2 ^ 16 from Nat.pow_le_pow_right (by omega) hk
  have e := Shl_nat 1 k (by omega) (by omega)
  rw [Nat.one_mul] at e
  rw [U64_id (by omega) (by omega)]
  exact ⟨by exact_mod_cast e, by omega⟩

theorem mod_step {M p i c : Nat} (h1 : p % M = c) (h2 : i % M = c) (h3 : i ≤ p) (h4 : p < i + M) : p = i := by
  have := Nat.sub_mod_eq_zero_of_mod_eq (h1.trans h2.symm)
  rw [Nat.mod_eq_of_lt (by omega)] at this
  omega
theorem fill_step {α : Type} {f : Nat → α} {M c i : Nat} {v : α} (hM : 0 < M) (hi : i % M = c) : fset (fun p => if p % M = c ∧ p < i then v else f p) i v = fun p => if p % M = c ∧ p < i + M then v else f p := by
  funext p
  unfold fset
  by_cases e : p = i
  · subst e; rw [if_pos rfl, if_pos ⟨hi, by omega⟩]
  · rw [if_neg e]
    dsimp only
    by_cases g : p % M = c ∧ p < i
    · rw [if_pos g, if_pos ⟨g.1, by omega⟩]
    · rw [if_neg g, if_neg]
      rintro ⟨g1, g2⟩
      rcases Nat.lt_or_ge p i with h | h
      · exact g ⟨g1, h⟩
      · exact e (mod_step g1 hi h g2)
theorem fill_init {α : Type} {f : Nat → α} {M c : Nat} {v : α} : (fun p => if p % M = c ∧ p < c then v else f p) = f := by
  funext p
  rw [if_neg]
  rintro ⟨g1, g2⟩
  have := Nat.mod_le p M
  omega

/-- The lengths and codes that the tables are made of. -/
structure LC (s : CS) (n : Nat) (l : Nat → Nat) : Prop where
  sz : s.n = n
  lens : ∀ i, i < n → s.lens i = l i
  code : ∀ i, i < n → s.code i = codeOf n l i
theorem code_small {n : Nat} {l : Nat → Nat} {i : Nat} (L : Lens n l) (hi : i < n) : codeOf n l i < 1024 :=
  Nat.lt_of_lt_of_le (code_lt n l i) (show 2 ^ l i ≤ 2 ^ 10 from Nat.pow_le_pow_right (by omega) (L.le i hi))

theorem lay_sweep1 {n : Nat} {l : Nat → Nat} {w0 : World} {K : World → Prop} (h : PW w C s) (hr : s.root = fun _ => 0) (c : LC s n l) (L : Lens n l) (hn : n ≤ 265) (hf : Fr C 11 w0 w)
    (hK : ∀ w' root0, PW w' C { s with root := root0 } → T1 n l n root0 → Fr C 11 w0 w' → K w') :
    LoopP (σ := Int × Unit) (fun st58 w next59 =>
      LdI .i64 w ⟨C, 0, none⟩ fun n_60 =>
      if (decide (st58.1 < n_60)) = true then
        Join (fun (w : World) =>
          Let (W (st58.1 + 1)) fun s_61 =>
          next59 (s_61, ()) w) fun J62 =>
        LdS w ⟨C, 1, none⟩ fun lens_63 =>
        Ix lens_63.a lens_63.l st58.1 fun b64 o65 =>
        LdI .i64 w ⟨b64, o65 + Int.toNat st58.1 * 1, none⟩ fun x_66 =>
        if (decide (x_66 > 6)) = true then
          LdS w ⟨C, 2, none⟩ fun code_67 =>
          Ix code_67.a code_67.l st58.1 fun b68 o69 =>
          LdI .i64 w ⟨b68, o69 + Int.toNat st58.1 * 1, none⟩ fun x_70 =>
          Let (And .i64 x_70 63) fun p_71 =>
          LdS w ⟨C, 3, none⟩ fun root_72 =>
          Ix root_72.a root_72.l p_71 fun b73 o74 =>
          LdI .i64 w ⟨b73, o74 + Int.toNat p_71 * 1, none⟩ fun x_75 =>
          if (decide ((W (0 - x_75)) < (W (x_66 - 6)))) = true then
            LdS w ⟨C, 3, none⟩ fun root_76 =>
            Ix root_76.a root_76.l p_71 fun b77 o78 =>
            St1 w ⟨b77, o78 + Int.toNat p_71 * 1, none⟩ (.int .i64 (W (6 - x_66))) fun w =>
            J62 w
          else
            J62 w
        else
          if (decide (x_66 > 0)) = true then
            LdS w ⟨C, 2, none⟩ fun code_79 =>
            Ix code_79.a code_79.l st58.1 fun b80 o81 =>
            LdI .i64 w ⟨b80, o81 + Int.toNat st58.1 * 1, none⟩ fun x_82 =>
            LoopP (σ := Int × Unit) (fun st83 w next84 =>
              if (decide (st83.1 < 64)) = true then
                LdS w ⟨C, 3, none⟩ fun root_85 =>
                Ix root_85.a root_85.l st83.1 fun b86 o87 =>
                St1 w ⟨b86, o87 + Int.toNat st83.1 * 1, none⟩ (.int .i64 (Or .i64 (Shl .i64 st58.1 4) x_66)) fun w =>
                Pos (U64 x_66) <|
                Let (W (st83.1 + (Shl .i64 1 (U64 x_66)))) fun i_88 =>
                next84 (i_88, ()) w
              else
                J62 w) (x_82, ()) w
          else
            J62 w
      else
        K w) (0, ()) w := by
  refine loopN (fun m st v => ∃ (j : Nat) (root : Nat → Int), st = ((j : Int), ()) ∧ m + j = n ∧ PW v C { s with root := root } ∧ T1 n l j root ∧ Fr C 11 w0 v) n
    ⟨0, s.root, rfl, rfl, h, by rw [hr]; exact t1_nil n l, hf⟩ ?_
  rintro m _ v ⟨j, root, rfl, hm, hv, t, fv⟩ Q hQ
  refine ldI hv.rc rfl ?_
  dsimp only
  rw [c.sz]
  by_cases hj : j < n
  · rw [if_pos (by simp only [decide_eq_true_eq]; omega)]
    have hlj := c.lens j hj
    have hcj := c.code j hj
    have h10 := L.le j hj
    have hcs := code_small L hj
    have next : ∀ v' root', PW v' C { s with root := root' } → T1 n l (j + 1) root' → Fr C 11 w0 v' → (Let (W ((j : Int) + 1)) fun s_61 => Q (s_61, ()) v') := by
      intro v' root' hv' t' f'
      rw [W_succ (by omega)]
      exact let_ (hQ (m - 1) _ _ (by omega) ⟨j + 1, root', rfl, by omega, hv', t', f'⟩)
    refine join_ (ldS hv.rc rfl (rdN hv.lens (by omega) ?_))
    rw [show ({ s with root := root } : CS).lens j = l j from hlj]
    by_cases h6 : 6 < l j
    · rw [if_pos (by simp only [decide_eq_true_eq]; omega)]
      refine ldS hv.rc rfl (rdN hv.code (by omega) ?_)
      rw [show ({ s with root := root } : CS).code j = codeOf n l j from hcj, and_63 (by omega)]
      refine let_ (ldS hv.rc rfl (rdZ hv.root (by omega) ?_))
      show (if (decide (W (0 - root (codeOf n l j % 64)) < W ((l j : Int) - 6))) = true then _ else _)
      have hle := t1_le L hj t h6
      have hlow : -4 ≤ root (codeOf n l j % 64) := by
        rcases (show root (codeOf n l j % 64) < 0 ∨ 0 ≤ root (codeOf n l j % 64) by omega) with g | g
        · obtain ⟨i, g1, g2, g3, g4⟩ := t.neg _ (by omega) g
          have := L.le i (by omega)
          omega
        · omega
      rw [W_id (x := 0 - root (codeOf n l j % 64)) (by omega) (by omega), W_id (x := (l j : Int) - 6) (by omega) (by omega)]
      by_cases hlt : 0 - root (codeOf n l j % 64) < (l j : Int) - 6
      · rw [if_pos (by simp only [decide_eq_true_eq]; omega)]
        refine ldS hv.rc rfl (wrZ hv.root (by omega) fun v1 d1 g1 _ => ?_)
        rw [W_id (by omega) (by omega)] at d1
        refine next v1 _ (hv.setRoot d1 g1) (t1_long L hj t h6 fun p hp => ?_) (fv.trans (g1.mono (by omega) (by omega)))
        unfold fset
        by_cases e : p = codeOf n l j % 64
        · subst e; rw [if_pos rfl, if_pos ⟨rfl, by omega⟩]
        · rw [if_neg e, if_neg (fun z => e z.1)]
      · rw [if_neg (by simp only [decide_eq_true_eq]; omega)]
        refine next v root hv (t1_long L hj t h6 fun p hp => ?_) fv
        rw [if_neg]
        rintro ⟨rfl, z⟩
        omega
    · rw [if_neg (by simp only [decide_eq_true_eq]; omega)]
      by_cases h0 : 0 < l j
      · rw [if_pos (by simp only [decide_eq_true_eq]; omega)]
        refine ldS hv.rc rfl (rdN hv.code (by omega) ?_)
        rw [show ({ s with root := root } : CS).code j = codeOf n l j from hcj]
        have hM := Nat.two_pow_pos (l j)
        refine loopN (fun m' st v' => ∃ i : Nat, st = ((i : Int), ()) ∧ m' = 64 - i ∧ i % 2 ^ l j = codeOf n l j ∧ i < 128 ∧ PW v' C { s with root := fun p => if p % 2 ^ l j = codeOf n l j ∧ p < i then ((j * 16 + l j : Nat) : Int) else root p } ∧ Fr C 11 w0 v') (64 - codeOf n l j)
          ⟨codeOf n l j, rfl, rfl, Nat.mod_eq_of_lt (code_lt n l j), Nat.lt_of_lt_of_le (code_lt n l j) (show 2 ^ l j ≤ 2 ^ 7 from Nat.pow_le_pow_right (by omega) (by omega)), by rw [fill_init]; exact hv, fv⟩ ?_
        rintro m' _ v' ⟨i, rfl, hm', hi, hi2, hv', fv'⟩ Q' hQ'
        dsimp only
        have hpw : 2 ^ l j ≤ 64 := show 2 ^ l j ≤ 2 ^ 6 from Nat.pow_le_pow_right (by omega) (by omega)
        by_cases hlt : i < 64
        · rw [if_pos (by simp only [decide_eq_true_eq]; omega), cell_or (by omega) (by omega)]
          refine ldS hv'.rc rfl (wrZ hv'.root hlt fun v1 d1 g1 _ => ?_)
          have hv1 := hv'.setRoot d1 g1
          obtain ⟨u1, u2⟩ := pow_shl (k := l j) (by omega)
          refine ⟨u2, ?_⟩
          rw [u1, W_add (by omega)]
          refine let_ (hQ' (64 - (i + 2 ^ l j)) _ _ (by omega) ⟨i + 2 ^ l j, rfl, rfl, by rw [Nat.add_mod_right]; exact hi, by omega, ?_, fv'.trans (g1.mono (by omega) (by omega))⟩)
          have := fill_step (f := root) (v := ((j * 16 + l j : Nat) : Int)) hM hi
          rw [← this]
          exact hv1
        · rw [if_neg (by simp only [decide_eq_true_eq]; omega)]
          refine next v' _ hv' (t1_short L hj t h0 (by omega) fun p hp => ?_) fv'
          by_cases e : p % 2 ^ l j = codeOf n l j
          · rw [if_pos ⟨e, by omega⟩, if_pos e]
          · rw [if_neg (fun z => e z.1), if_neg e]
      · rw [if_neg (by simp only [decide_eq_true_eq]; omega)]
        exact next v root hv (t1_none t (by omega)) fv
  · rw [if_neg (by simp only [decide_eq_true_eq]; omega)]
    have : j = n := by omega
    subst this
    exact hK v root hv t fv

theorem lay_sweep2 {n : Nat} {l : Nat → Nat} {w0 : World} {root0 : Nat → Int} {K : World → Prop} (h : PW w C s) (hr : s.root = root0) (ht : s.top = 0) (L : Lens n l) (t1 : T1 n l n root0) (hf : Fr C 11 w0 w)
    (hK : ∀ w' root st top sub, PW w' C { s with root := root, sub := sub, top := top } → T2 root0 64 root st top → (∀ x, x < top → sub x = 0) → Fr C 11 w0 w' → K w') :
      LoopP (σ := Int × Unit) (fun st32 w next33 =>
        if (decide (st32.1 < 64)) = true then
          Join (fun (w : World) =>
            Let (W (st32.1 + 1)) fun p_34 =>
            next33 (p_34, ()) w) fun J35 =>
          LdS w ⟨C, 3, none⟩ fun root_36 =>
          Ix root_36.a root_36.l st32.1 fun b37 o38 =>
          LdI .i64 w ⟨b37, o38 + Int.toNat st32.1 * 1, none⟩ fun x_39 =>
          if (decide (x_39 < 0)) = true then
            LdS w ⟨C, 3, none⟩ fun root_40 =>
            Ix root_40.a root_40.l st32.1 fun b41 o42 =>
            LdI .i64 w ⟨b41, o42 + Int.toNat st32.1 * 1, none⟩ fun x_43 =>
            Let (W (0 - x_43)) fun width_44 =>
            Drew w fun w =>
            LdS w ⟨C, 3, none⟩ fun root_45 =>
            LdI .i64 w ⟨C, 5, none⟩ fun top_46 =>
            Ix root_45.a root_45.l st32.1 fun b47 o48 =>
            St1 w ⟨b47, o48 + Int.toNat st32.1 * 1, none⟩ (.int .i64 (W (0 - (Or .i64 (Shl .i64 top_46 4) width_44)))) fun w =>
            LoopP (σ := Int × Unit) (fun st49 w next50 =>
              Pos (U64 width_44) <|
              if (decide (st49.1 < (Shl .i64 1 (U64 width_44)))) = true then
                Drew w fun w =>
                LdS w ⟨C, 4, none⟩ fun sub_51 =>
                LdI .i64 w ⟨C, 5, none⟩ fun top_52 =>
                Ix sub_51.a sub_51.l top_52 fun b53 o54 =>
                St1 w ⟨b53, o54 + Int.toNat top_52 * 1, none⟩ (.int .i64 0) fun w =>
                LdI .i64 w ⟨C, 5, none⟩ fun top_55 =>
                St1 w ⟨C, 5, none⟩ (.int .i64 (W (top_55 + 1))) fun w =>
                Let (W (st49.1 + 1)) fun j_56 =>
                next50 (j_56, ()) w
              else
                J35 w) (0, ()) w
          else
            J35 w
        else
          K w) (0, ()) w := by
  refine loopN (fun m stt v => ∃ (q : Nat) (root : Nat → Int) (st : Nat → Nat) (top : Nat) (sub : Nat → Nat), stt = ((q : Int), ()) ∧ m + q = 64 ∧ PW v C { s with root := root, sub := sub, top := top } ∧ T2 root0 q root st top ∧ (∀ x, x < top → sub x = 0) ∧ Fr C 11 w0 v) 64
    ⟨0, root0, _, 0, s.sub, rfl, rfl, ?_, t2_nil root0, fun x hx => by omega, hf⟩ ?_
  · have : ({ s with root := root0, sub := s.sub, top := 0 } : CS) = s := by rw [← hr, ← ht]
    rw [this]; exact h
  rintro m _ v ⟨q, root, st, top, sub, rfl, hm, hv, t, hz, fv⟩ Q hQ
  dsimp only
  by_cases hq : q < 64
  · rw [if_pos (by simp only [decide_eq_true_eq]; omega)]
    have hrq : root q = root0 q := t.old q (Nat.le_refl _)
    refine join_ (ldS hv.rc rfl (rdZ hv.root hq ?_))
    show (if (decide (root q < 0)) = true then _ else _)
    by_cases hneg : root0 q < 0
    · rw [hrq, if_pos (by simp only [decide_eq_true_eq]; omega)]
      obtain ⟨w4, w1⟩ := wd_le L t1 hq hneg
      refine ldS hv.rc rfl (rdZ hv.root hq ?_)
      show Let (W (0 - root q)) _
      have hwd : W (0 - root q) = ((wd root0 q : Nat) : Int) := by rw [hrq]; unfold wd at w4 ⊢; rw [W_id (by omega) (by omega)]; omega
      rw [hwd]
      have htop := t.top
      refine let_ (drew_ (ldS hv.rc.drew rfl (ldI hv.rc.drew rfl ?_)))
      show Ix _ _ _ _
      rw [show Or .i64 (Shl .i64 ((({ s with root := root, sub := sub, top := top } : CS).top : Nat) : Int) 4) ((wd root0 q : Nat) : Int) = ((top * 16 + wd root0 q : Nat) : Int) from by
        show Or .i64 (Shl .i64 (top : Int) 4) ((wd root0 q : Nat) : Int) = _
        rw [show Shl .i64 (top : Int) 4 = ((top * 2 ^ 4 : Nat) : Int) from Shl_nat top 4 (by omega) (by omega), Or_nat (by omega) (by omega), Nat.mul_comm top, ← Nat.two_pow_add_eq_or_of_lt (by omega : wd root0 q < 2 ^ 4)]]
      refine wrZ hv.root.drew hq fun v1 d1 g1 _ => ?_
      rw [show W (0 - ((top * 16 + wd root0 q : Nat) : Int)) = -((top * 16 + wd root0 q : Nat) : Int) from by rw [W_id (by omega) (by omega)]; omega] at d1
      have hv1 := hv.drew.setRoot d1 g1
      have fv1 : Fr C 11 w0 v1 := fv.trans ((show Fr (C + 3) 1 v v1 from g1).mono (by omega) (by omega))
      obtain ⟨u1, u2⟩ := pow_shl (k := wd root0 q) (by omega)
      have hp : 2 ^ wd root0 q ≤ 16 := show 2 ^ wd root0 q ≤ 2 ^ 4 from Nat.pow_le_pow_right (by omega) w4
      refine loopN (fun m' stt v' => ∃ (k : Nat) (sub' : Nat → Nat), stt = ((k : Int), ()) ∧ m' + k = 2 ^ wd root0 q ∧ PW v' C { s with root := fset root q (-((top * 16 + wd root0 q : Nat) : Int)), sub := sub', top := top + k } ∧ (∀ x, x < top + k → sub' x = 0) ∧ Fr C 11 w0 v') (2 ^ wd root0 q)
        ⟨0, sub, rfl, rfl, hv1, hz, fv1⟩ ?_
      rintro m' _ v' ⟨k, sub', rfl, hm', hv', hz', fv'⟩ Q' hQ'
      refine ⟨u2, ?_⟩
      dsimp only
      rw [u1]
      by_cases hk : k < 2 ^ wd root0 q
      · rw [if_pos (by simp only [decide_eq_true_eq]; omega)]
        refine drew_ (ldS hv'.rc.drew rfl (ldI hv'.rc.drew rfl ?_))
        refine wrN (v := 0) hv'.sub.drew (by show top + k < 1024; omega) rfl fun v2 d2 g2 _ => ?_
        have hv2 := hv'.drew.setSub d2 g2
        refine ldI hv2.rc rfl (st1 hv2.rc (by simp [rcd]) fun v3 d3 g3 _ => ?_)
        rw [W_succ (j := top + k) (by omega)] at d3
        have hv3 := hv2.setTop (v := top + k + 1) d3 g3
        rw [W_succ (by omega)]
        refine let_ (hQ' (m' - 1) _ _ (by omega) ⟨k + 1, _, rfl, by omega, hv3, fun x hx => ?_, fv'.trans (((show Fr (C + 4) 1 v' v2 from g2).mono (by omega) (by omega)).trans (g3.mono (by omega) (by omega)))⟩)
        show fset sub' (top + k) 0 x = 0
        unfold fset; split
        · rfl
        · exact hz' x (by omega)
      · rw [if_neg (by simp only [decide_eq_true_eq]; omega), W_succ (by omega)]
        have : k = 2 ^ wd root0 q := by omega
        subst this
        exact let_ (hQ (m - 1) _ _ (by omega) ⟨q + 1, _, _, _, sub', rfl, by omega, hv', t2_link t hneg w4, hz', fv'⟩)
    · rw [hrq, if_neg (by simp only [decide_eq_true_eq]; omega), W_succ (by omega)]
      exact let_ (hQ (m - 1) _ _ (by omega) ⟨q + 1, root, st, top, sub, rfl, by omega, hv, t2_keep t (by omega), hz, fv⟩)
  · rw [if_neg (by simp only [decide_eq_true_eq]; omega)]
    have : q = 64 := by omega
    subst this
    exact hK v root st top sub hv t hz fv

theorem fill_sub {f : Nat → Nat} {M c i B : Nat} {v : Nat} (hM : 0 < M) (hi : i % M = c) :
    fset (fun y => if B ≤ y ∧ (y - B) % M = c ∧ y - B < i then v else f y) (B + i) v = fun y => if B ≤ y ∧ (y - B) % M = c ∧ y - B < i + M then v else f y := by
  funext y
  unfold fset
  by_cases e : y = B + i
  · subst e
    rw [if_pos rfl, if_pos ⟨by omega, by rw [show B + i - B = i from by omega]; exact hi, by omega⟩]
  · rw [if_neg e]
    dsimp only
    by_cases g : B ≤ y ∧ (y - B) % M = c ∧ y - B < i
    · rw [if_pos g, if_pos ⟨g.1, g.2.1, by omega⟩]
    · rw [if_neg g, if_neg]
      rintro ⟨g0, g1, g2⟩
      rcases Nat.lt_or_ge (y - B) i with h | h
      · exact g ⟨g0, g1, h⟩
      · have := mod_step g1 hi h g2
        omega
theorem fill_sub_init {f : Nat → Nat} {M c B : Nat} {v : Nat} : (fun y => if B ≤ y ∧ (y - B) % M = c ∧ y - B < c then v else f y) = f := by
  funext y
  rw [if_neg]
  rintro ⟨_, g1, g2⟩
  have := Nat.mod_le (y - B) M
  omega

theorem lay_sweep3 {n : Nat} {l : Nat → Nat} {w0 : World} {root0 root : Nat → Int} {st : Nat → Nat} {top : Nat} {K : World → Prop} (h : PW w C s) (hr : s.root = root) (c : LC s n l) (L : Lens n l) (hn : n ≤ 265) (t1 : T1 n l n root0) (t2 : T2 root0 64 root st top) (hz : ∀ x, x < top → s.sub x = 0) (hf : Fr C 11 w0 w)
    (hK : ∀ w' sub, PW w' C { s with sub := sub } → Tabs n l root sub → Fr C 11 w0 w' → K w') :
        LoopP (σ := Int × Unit) (fun st1 w next2 =>
          LdI .i64 w ⟨C, 0, none⟩ fun n_3 =>
          if (decide (st1.1 < n_3)) = true then
            Join (fun (w : World) =>
              Let (W (st1.1 + 1)) fun s_4 =>
              next2 (s_4, ()) w) fun J5 =>
            LdS w ⟨C, 1, none⟩ fun lens_6 =>
            Ix lens_6.a lens_6.l st1.1 fun b7 o8 =>
            LdI .i64 w ⟨b7, o8 + Int.toNat st1.1 * 1, none⟩ fun x_9 =>
            if (decide (x_9 > 6)) = true then
              Drew w fun w =>
              LdS w ⟨C, 3, none⟩ fun root_10 =>
              LdS w ⟨C, 2, none⟩ fun code_11 =>
              Ix code_11.a code_11.l st1.1 fun b12 o13 =>
              LdI .i64 w ⟨b12, o13 + Int.toNat st1.1 * 1, none⟩ fun x_14 =>
              Ix root_10.a root_10.l (And .i64 x_14 63) fun b15 o16 =>
              LdI .i64 w ⟨b15, o16 + Int.toNat (And .i64 x_14 63) * 1, none⟩ fun x_17 =>
              Let (W (0 - x_17)) fun link_18 =>
              Let (Shr .i64 link_18 4) fun start_19 =>
              LdS w ⟨C, 2, none⟩ fun code_20 =>
              Ix code_20.a code_20.l st1.1 fun b21 o22 =>
              LdI .i64 w ⟨b21, o22 + Int.toNat st1.1 * 1, none⟩ fun x_23 =>
              Let (Shr .i64 x_23 6) fun j_24 =>
              LoopP (σ := Int × Unit) (fun st25 w next26 =>
                Pos (U64 (And .i64 link_18 15)) <|
                if (decide (st25.1 < (Shl .i64 1 (U64 (And .i64 link_18 15))))) = true then
                  LdS w ⟨C, 4, none⟩ fun sub_27 =>
                  Ix sub_27.a sub_27.l (W (start_19 + st25.1)) fun b28 o29 =>
                  St1 w ⟨b28, o29 + Int.toNat (W (start_19 + st25.1)) * 1, none⟩ (.int .i64 (Or .i64 (Shl .i64 st1.1 4) x_9)) fun w =>
                  Pos (U64 (W (x_9 - 6))) <|
                  Let (W (st25.1 + (Shl .i64 1 (U64 (W (x_9 - 6)))))) fun j_30 =>
                  next26 (j_30, ()) w
                else
                  J5 w) (j_24, ()) w
            else
              J5 w
          else
            K w) (0, ()) w := by
  refine loopN (fun m stt v => ∃ (j : Nat) (sub : Nat → Nat), stt = ((j : Int), ()) ∧ m + j = n ∧ PW v C { s with sub := sub } ∧ T3 n l root0 st j sub ∧ Fr C 11 w0 v) n
    ⟨0, s.sub, rfl, rfl, h, t3_nil t2 hz, hf⟩ ?_
  rintro m _ v ⟨j, sub, rfl, hm, hv, t, fv⟩ Q hQ
  refine ldI hv.rc rfl ?_
  dsimp only
  rw [c.sz]
  by_cases hj : j < n
  · rw [if_pos (by simp only [decide_eq_true_eq]; omega)]
    have hlj := c.lens j hj
    have hcj := c.code j hj
    have h10 := L.le j hj
    have hcs := code_small L hj
    have next : ∀ v' sub', PW v' C { s with sub := sub' } → T3 n l root0 st (j + 1) sub' → Fr C 11 w0 v' → (Let (W ((j : Int) + 1)) fun s_4 => Q (s_4, ()) v') := by
      intro v' sub' hv' t' f'
      rw [W_succ (by omega)]
      exact let_ (hQ (m - 1) _ _ (by omega) ⟨j + 1, sub', rfl, by omega, hv', t', f'⟩)
    refine join_ (ldS hv.rc rfl (rdN hv.lens (by omega) ?_))
    rw [show ({ s with sub := sub } : CS).lens j = l j from hlj]
    by_cases h6 : 6 < l j
    · rw [if_pos (by simp only [decide_eq_true_eq]; omega)]
      refine drew_ (ldS hv.rc.drew rfl (ldS hv.rc.drew rfl (rdN hv.code.drew (by omega) ?_)))
      rw [show ({ s with sub := sub } : CS).code j = codeOf n l j from hcj, and_63 (by omega)]
      refine rdZ hv.root.drew (by omega) ?_
      rw [show ({ s with sub := sub } : CS).root (codeOf n l j % 64) = root (codeOf n l j % 64) from by rw [← hr]]
      have hlong := t1.long j hj h6
      have hneg : root0 (codeOf n l j % 64) < 0 := by omega
      obtain ⟨w4, w1⟩ := wd_le L t1 (show codeOf n l j % 64 < 64 by omega) hneg
      obtain ⟨e1, e2⟩ := t2.link (codeOf n l j % 64) (by omega) hneg
      have htop := t2.top
      have hw : l j - 6 ≤ wd root0 (codeOf n l j % 64) := by unfold wd; omega
      generalize hP : codeOf n l j % 64 = P at *
      generalize hW : wd root0 P = W0 at *
      have hpN : 2 ^ W0 ≤ 16 := show 2 ^ W0 ≤ 2 ^ 4 from Nat.pow_le_pow_right (by omega) w4
      have hM := Nat.two_pow_pos (l j - 6)
      have hMN : 2 ^ (l j - 6) ≤ 2 ^ W0 := Nat.pow_le_pow_right (by omega) hw
      rw [show W (0 - root P) = ((st P * 16 + W0 : Nat) : Int) from by rw [e1, W_id (by omega) (by omega)]; omega]
      refine let_ ?_
      rw [show Shr .i64 ((st P * 16 + W0 : Nat) : Int) 4 = ((st P : Nat) : Int) from by
        rw [show Shr .i64 ((st P * 16 + W0 : Nat) : Int) 4 = (((st P * 16 + W0) / 2 ^ 4 : Nat) : Int) from Shr_nat _ 4 (by omega)]
        congr 1; omega]
      refine let_ (ldS hv.rc.drew rfl (rdN hv.code.drew (by omega) ?_))
      rw [show ({ s with sub := sub } : CS).code j = codeOf n l j from hcj]
      rw [show Shr .i64 ((codeOf n l j : Nat) : Int) 6 = ((codeOf n l j / 64 : Nat) : Int) from by exact_mod_cast Shr_nat (codeOf n l j) 6 (by omega)]
      rw [and_15' (a := st P * 16 + W0) (by omega), show (st P * 16 + W0) % 16 = W0 from by omega]
      obtain ⟨u1, u2⟩ := pow_shl (k := W0) (by omega)
      have hcq : codeOf n l j / 64 < 2 ^ (l j - 6) := by
        have := code_lt n l j
        rw [show 2 ^ l j = 64 * 2 ^ (l j - 6) from by rw [show (64 : Nat) = 2 ^ 6 from rfl, ← Nat.pow_add]; congr 1; omega] at this
        omega
      refine let_ ?_
      refine loopN (fun m' stt v' => ∃ i : Nat, stt = ((i : Int), ()) ∧ m' = 16 - i ∧ i % 2 ^ (l j - 6) = codeOf n l j / 64 ∧ (i < 2 ^ W0 ∨ 2 ^ (l j - 6) ≤ i ∧ i - 2 ^ (l j - 6) < 2 ^ W0) ∧ PW v' C { s with sub := fun y => if st P ≤ y ∧ (y - st P) % 2 ^ (l j - 6) = codeOf n l j / 64 ∧ y - st P < i then j * 16 + l j else sub y } ∧ Fr C 11 w0 v') (16 - codeOf n l j / 64)
        ⟨codeOf n l j / 64, rfl, rfl, Nat.mod_eq_of_lt hcq, .inl (by omega), by rw [fill_sub_init]; exact hv.drew, fv⟩ ?_
      rintro m' _ v' ⟨i, rfl, hm', hi, hiN, hv', fv'⟩ Q' hQ'
      refine ⟨u2, ?_⟩
      dsimp only
      rw [u1]
      by_cases hlt : i < 2 ^ W0
      · rw [if_pos (by simp only [decide_eq_true_eq]; omega), cell_or (by omega) (by omega), W_add (by omega)]
        refine ldS hv'.rc rfl (wrN (v := j * 16 + l j) hv'.sub (by omega) rfl fun v1 d1 g1 _ => ?_)
        have hv1 := hv'.setSub d1 g1
        rw [show W ((l j : Int) - 6) = ((l j - 6 : Nat) : Int) from by rw [W_id (by omega) (by omega)]; omega]
        obtain ⟨x1, x2⟩ := pow_shl (k := l j - 6) (by omega)
        refine ⟨x2, ?_⟩
        rw [x1, W_add (by omega)]
        refine let_ (hQ' (16 - (i + 2 ^ (l j - 6))) _ _ (by omega) ⟨i + 2 ^ (l j - 6), rfl, rfl, by rw [Nat.add_mod_right]; exact hi, .inr ⟨by omega, by omega⟩, ?_, fv'.trans (g1.mono (by omega) (by omega))⟩)
        rw [← fill_sub (f := sub) (B := st P) (v := j * 16 + l j) hM hi]
        exact hv1
      · rw [if_neg (by simp only [decide_eq_true_eq]; omega)]
        refine next v' _ hv' (t3_long (sub := sub) L hj t2 t h6 (by rw [hP]; exact hneg) fun y => ?_) fv'
        rw [hP, hW]
        by_cases e : st P ≤ y ∧ (y - st P) % 2 ^ (l j - 6) = codeOf n l j / 64 ∧ y - st P < i
        · rw [if_pos e]
          have hyN : y - st P < 2 ^ W0 := by
            rcases Nat.lt_or_ge (y - st P) (2 ^ W0) with g | g
            · exact g
            · have hi2 : (i - 2 ^ (l j - 6)) % 2 ^ (l j - 6) = codeOf n l j / 64 := by
                rw [← hi]
                conv => rhs; rw [show i = i - 2 ^ (l j - 6) + 2 ^ (l j - 6) from by omega, Nat.add_mod_right]
              have := mod_step e.2.1 hi2 (by omega) (by omega)
              omega
          rw [if_pos ⟨e.1, by omega, e.2.1⟩]
        · rw [if_neg e, if_neg (fun z => e ⟨z.1, z.2.2, by omega⟩)]
    · rw [if_neg (by simp only [decide_eq_true_eq]; omega)]
      exact next v sub hv (t3_skip t h6) fv
  · rw [if_neg (by simp only [decide_eq_true_eq]; omega)]
    have : j = n := by omega
    subst this
    exact hK v sub hv (tabs_of L t1 t2 t) fv
end Go.Proofs.Qxb6500563aGreat
